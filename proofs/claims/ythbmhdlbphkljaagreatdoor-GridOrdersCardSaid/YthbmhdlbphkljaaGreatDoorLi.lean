/- Proved: whatever entries and cells come in, GridEntries and GridOrders answer true, and the arguments read as they did. Conditions: none beyond those that the given statements state themselves. -/
import Derived.Test.YthbmhdlbphkljaaGreatDoorLh
namespace Go.Proofs.YthbmhdlbphkljaaGreatDoor
open Go Go.X
/-! the plain law: entries put one after another stand in order -/
abbrev K3 := Int × Int × Int
def ltK (a b : K3) : Prop := a.1 < b.1 ∨ (a.1 = b.1 ∧ (a.2.2 < b.2.2 ∨ (a.2.2 = b.2.2 ∧ a.2.1 < b.2.1)))
def Ent.key (e : Ent) : K3 := (e.s, e.c, e.r)
theorem lessC_iff (s1 c1 r1 s2 c2 r2 : Int) : lessC s1 c1 r1 s2 c2 r2 = true ↔ ltK (s1, c1, r1) (s2, c2, r2) := by
  unfold lessC ltK
  split
  · simp; omega
  · split
    · simp; omega
    · simp; omega
theorem ltK_trans {a b c : K3} (h1 : ltK a b) (h2 : ltK b c) : ltK a c := by unfold ltK at *; omega
theorem ltK_total {a b : K3} (h1 : ¬ ltK a b) (h2 : a ≠ b) : ltK b a := by
  unfold ltK at *
  have : ¬ (a.1 = b.1 ∧ a.2.1 = b.2.1 ∧ a.2.2 = b.2.2) := fun q => h2 (by obtain ⟨a1, a2, a3⟩ := a; obtain ⟨b1, b2, b3⟩ := b; simp at q ⊢; omega)
  omega
def Srt (es : List Ent) : Prop := es.Pairwise fun a b => ltK a.key b.key
theorem Srt.del {es : List Ent} (h : Srt es) (i : Nat) : Srt (delE es i) := by
  unfold delE
  have : (es.take i ++ es.drop (i + 1)).Sublist es := by
    conv => rhs; rw [← List.take_append_drop i es]
    refine List.Sublist.append (List.Sublist.refl _) ?_
    rw [← List.drop_drop]
    exact List.drop_sublist _ _
  exact h.sublist this
theorem drop_srt {es : List Ent} (h : Srt es) (s c r : Int) : Srt (dropE es s c r) ∧ (dropE es s c r).length ≤ es.length := by
  unfold dropE
  generalize findE es s c r = fd
  obtain ⟨i, is⟩ := fd
  cases is with
  | true => exact ⟨h.del i, by unfold delE; simp; omega⟩
  | false => exact ⟨h, Nat.le_refl _⟩
theorem pw_get {es : List Ent} (h : Srt es) {i j : Nat} (hj : j < es.length) (hij : i < j) : ltK (es[i]'(by omega)).key es[j].key := List.pairwise_iff_getElem.1 h i j (by omega) hj hij
theorem put_srt {es : List Ent} (h : Srt es) (e : Ent) : Srt (putE es e) ∧ (putE es e).length ≤ es.length + 1 := by
  unfold putE
  have hf : findE es e.s e.c e.r = match es.findIdx? (isAt e.s e.c e.r) with
    | some i => (i, true)
    | none => match es.findIdx? (notLess e.s e.c e.r) with
      | some i => (i, false)
      | none => (es.length, false) := rfl
  rw [hf]
  cases h1 : es.findIdx? (isAt e.s e.c e.r) with
  | some i =>
    obtain ⟨hi, hp, _⟩ := List.findIdx?_eq_some_iff_getElem.1 h1
    refine ⟨?_, by simp; omega⟩
    have hk : es[i].key = e.key := by
      have : es[i].s = e.s ∧ es[i].c = e.c ∧ es[i].r = e.r := by simpa [isAt] using hp
      unfold Ent.key; rw [this.1, this.2.1, this.2.2]
    have hes : es = es.take i ++ es[i] :: es.drop (i + 1) := by simp
    have hS : Srt (es.take i ++ es[i] :: es.drop (i + 1)) := by rw [← hes]; exact h
    show Srt (es.take i ++ e :: es.drop (i + 1))
    unfold Srt at hS ⊢
    rw [List.pairwise_append, List.pairwise_cons] at hS ⊢
    obtain ⟨a1, ⟨a2, a3⟩, a4⟩ := hS
    refine ⟨a1, ⟨fun x hx => by rw [← hk]; exact a2 x hx, a3⟩, fun x hx y hy => ?_⟩
    cases hy with
    | head => rw [← hk]; exact a4 x hx _ (.head _)
    | tail _ q => exact a4 x hx y (.tail _ q)
  | none =>
    have hno : ∀ x ∈ es, x.key ≠ e.key := by
      intro x hx q
      have := List.findIdx?_eq_none_iff.1 h1 x hx
      unfold Ent.key at q
      simp only [Prod.mk.injEq] at q
      simp [isAt, q] at this
    have ins : ∀ i, i ≤ es.length → (∀ j (hj : j < es.length), j < i → ltK es[j].key e.key) → (∀ j (hj : j < es.length), i ≤ j → ltK e.key es[j].key) → Srt (insE es i e) ∧ (insE es i e).length ≤ es.length + 1 := by
      intro i hi ha hb
      refine ⟨?_, by unfold insE; simp; omega⟩
      have hS : Srt (es.take i ++ es.drop i) := by rw [List.take_append_drop]; exact h
      unfold insE
      unfold Srt at hS ⊢
      rw [List.pairwise_append] at hS ⊢
      rw [List.pairwise_cons]
      obtain ⟨a1, a3, a4⟩ := hS
      have hl : ∀ x ∈ es.take i, ltK x.key e.key := by
        intro x hx
        obtain ⟨j, hj, rfl⟩ := List.getElem_of_mem hx
        rw [List.getElem_take]
        have : j < i ∧ j < es.length := by simp at hj; omega
        exact ha j this.2 this.1
      have hr : ∀ x ∈ es.drop i, ltK e.key x.key := by
        intro x hx
        obtain ⟨j, hj, rfl⟩ := List.getElem_of_mem hx
        rw [List.getElem_drop]
        have : i + j < es.length := by simp at hj; omega
        exact hb _ this (by omega)
      refine ⟨a1, ⟨hr, a3⟩, fun x hx y hy => ?_⟩
      cases hy with
      | head => exact hl x hx
      | tail _ q => exact a4 x hx y q
    cases h2 : es.findIdx? (notLess e.s e.c e.r) with
    | some i =>
      obtain ⟨hi, hp, hq⟩ := List.findIdx?_eq_some_iff_getElem.1 h2
      have hle : ∀ x : Ent, notLess e.s e.c e.r x = false ↔ ltK x.key e.key := by
        intro x
        unfold notLess
        rw [Bool.not_eq_false']
        exact lessC_iff _ _ _ _ _ _
      have hge : ltK e.key es[i].key := by
        refine ltK_total (fun q => ?_) (hno _ (List.getElem_mem hi))
        rw [(hle _).2 q] at hp; cases hp
      refine ins i (by omega) (fun j hj hji => (hle _).1 (by simpa using hq j hji)) fun j hj hij => ?_
      by_cases q : i = j
      · subst q; exact hge
      · exact ltK_trans hge (pw_get h hj (by omega))
    | none =>
      refine ins es.length (Nat.le_refl _) (fun j hj _ => ?_) (fun j hj q => by omega)
      have := List.findIdx?_eq_none_iff.1 h2 _ (List.getElem_mem hj)
      unfold notLess at this
      rw [Bool.not_eq_false'] at this
      exact (lessC_iff _ _ _ _ _ _).1 this

/-! a slice of cells -/
def flatC (cs : List K3) : List Value := cs.flatMap fun k => [.int .i64 k.1, .int .i64 k.2.1, .int .i64 k.2.2]
theorem flatC_len (es : List K3) : (flatC es).length = 3 * es.length := by
  induction es with
  | nil => rfl
  | cons e es ih => show (([.int .i64 e.1, .int .i64 e.2.1, .int .i64 e.2.2] : List Value) ++ flatC es).length = _; rw [List.length_append, ih]; simp; omega
theorem flatC_app (a b : List K3) : flatC (a ++ b) = flatC a ++ flatC b := by simp [flatC]
theorem flatC_at (es : List K3) (i : Nat) (hi : i < es.length) : ((flatC es).drop (3 * i)).take 3 = [.int .i64 es[i].1, .int .i64 es[i].2.1, .int .i64 es[i].2.2] := by
  have : es = es.take i ++ es[i] :: es.drop (i + 1) := by simp
  conv => lhs; rw [this]
  have hl : (flatC (es.take i)).length = 3 * i := by rw [flatC_len, List.length_take]; omega
  have e2 : flatC (es.take i ++ es[i] :: es.drop (i + 1)) = flatC (es.take i) ++ ([.int .i64 es[i].1, .int .i64 es[i].2.1, .int .i64 es[i].2.2] ++ flatC (es.drop (i + 1))) := by rw [flatC_app]; rfl
  rw [e2, ← hl, List.drop_left]
  rfl
inductive ReadC (h : H) : Value → List K3 → Prop
  | nil : ReadC h (.slice none 0 0) []
  | at (b o c : Nat) (cs : List K3) (hl : b < h.next) (hr : ∃ x, h.row b = some x ∧ (x.cs.drop o).take (3 * cs.length) = flatC cs) : ReadC h (.slice (some ⟨b, o, none⟩) cs.length c) cs
theorem ReadC.fr {h h' : H} {v : Value} {cs : List K3} (r : ReadC h v cs) (f : Fr h h') : ReadC h' v cs := by
  cases r with
  | nil => exact .nil
  | «at» b o c _ hl hr => exact .at b o c _ (Nat.lt_of_lt_of_le hl f.next) (by rw [row_fr f hl]; exact hr)
theorem ReadC.ix {h : H} {v : Value} {cs : List K3} (r : ReadC h v cs) {i : Nat} (hi : i < cs.length) : ∃ b o, ixA 3 v (vInt i) = some (.pointer (some ⟨b, o, none⟩)) ∧ aggV 3 h (.pointer (some ⟨b, o, none⟩)) = some (vCell cs[i].1 cs[i].2.1 cs[i].2.2) := by
  cases r with
  | nil => cases hi
  | «at» b o c _ hl hr =>
    refine ⟨b, o + i * 3, by simp [hi], ?_⟩
    obtain ⟨x, hx, hc⟩ := hr
    have key : (x.cs.drop (o + i * 3)).take 3 = [.int .i64 cs[i].1, .int .i64 cs[i].2.1, .int .i64 cs[i].2.2] := by
      rw [← flatC_at cs i hi, ← hc, List.drop_take, List.drop_drop, List.take_take]
      congr 1
      · omega
      · congr 1; omega
    have hlen : 3 ≤ (x.cs.drop (o + i * 3)).length := by
      have := congrArg List.length key
      rw [List.length_take] at this; simp only [List.length_cons, List.length_nil] at this; omega
    rw [aggV_ptr, hx]
    show ((takeN 3 (dropN (o + i * 3) x.cs)).bind _) = _
    rw [dropN_eq, takeN_ok hlen, key]; rfl
theorem ReadC.len {h : H} {v : Value} {cs : List K3} (r : ReadC h v cs) (K : Value → H → Prop) : blt EE h .len #[39] [v] K = K (vInt cs.length) h := by
  cases r with
  | nil => rw [blt_len_slice un39]; rfl
  | «at» b o c _ hl hr => rw [blt_len_slice un39]
theorem GridOrders_res (hkn : ∀ h, SoundCall PP n_law25_known [] h (.v (.bool true) h)) {h : H} {v w : Value} {es : List Ent} {cs : List K3} (r : ReadSl h v es) (rc : ReadC h w cs) :
    SoundCall PP n_law25_GridOrders [v, w] h (.v (.bool true) h) := by
  have hbb : big = 10000000000 := rfl
  refine CallW.pure (law25_GridOrders_ok ?_) (by simp [flat])
  unfold law25_GridOrders
  rw [r.len, Go.X.binOp_gtr, bindO_some, boolP_bool]
  by_cases hbig : 100 < es.length
  · rw [if_neg (by simp; omega)]
    unfold law25_GridOrders_j2
    rw [condP_t]
    exact CP_of (hkn h) ⟨rfl, Fr.refl h⟩
  · rw [if_pos (by simp; omega), rc.len, Go.X.binOp_gtr, bindO_some]
    unfold law25_GridOrders_j2
    rw [condP_bool]
    by_cases hbig2 : 100 < cs.length
    · rw [if_pos (by simp; omega)]
      exact CP_of (hkn h) ⟨rfl, Fr.refl h⟩
    · rw [if_neg (by simp; omega)]
      refine LoopG.ind (fun s h' => Fr h h' ∧ ∃ (i : Nat) (o : Value) (os : List Ent), s = [v, w, o, vInt i] ∧ i ≤ es.length ∧ OwnSl h h' o os ∧ Srt os ∧ os.length ≤ i)
        (fun s _ => match nthD s 3 with | .int _ i => es.length - i.toNat | _ => 0) ?_ ⟨Fr.refl h, 0, .slice none 0 0, [], rfl, Nat.zero_le _, .nil, .nil, Nat.le_refl _⟩
      rintro s h1 ⟨f1, i, o, os, rfl, hi, ho, hs, hn⟩
      show law25_GridOrders_l18 _ _ v w o (vInt i) h1
      unfold law25_GridOrders_l18
      rw [(r.fr f1).len, Go.X.binOp_lss, bindO_some, condP_bool]
      by_cases hlt : i < es.length
      · rw [if_pos (by simp; omega)]
        obtain ⟨b, q, e1, e2, e3⟩ := (r.fr f1).ix hlt
        rw [e1, bindO_some, e2, bindO_some]
        refine (grid_Put_res f1 ho.read (by omega) es[i]).mono ?_
        rintro v2 h2 ⟨g1, g2, g3⟩
        rw [Go.X.binOp_add, bindO_some, wrap64 (by omega) (by omega)]
        obtain ⟨p1, p2⟩ := put_srt hs es[i]
        refine ⟨⟨g1, i + 1, v2, _, by simp, by omega, g3.up f1, p1, by omega⟩, ?_⟩
        show es.length - ((i : Int) + 1).toNat < es.length - (i : Int).toNat
        omega
      · rw [if_neg (by simp; omega)]
        refine LoopG.ind (fun s h' => Fr h h' ∧ ∃ (i : Nat) (o : Value) (os : List Ent), s = [v, w, o, vInt i] ∧ i ≤ cs.length ∧ OwnSl h h' o os ∧ Srt os ∧ os.length ≤ es.length)
          (fun s _ => match nthD s 3 with | .int _ i => cs.length - i.toNat | _ => 0) ?_ ⟨f1, 0, o, os, rfl, Nat.zero_le _, ho, hs, by omega⟩
        clear hi hlt hn hs ho f1
        clear i o os h1
        rintro s h1 ⟨f1, i, o, os, rfl, hi, ho, hs, hn⟩
        show law25_GridOrders_l38 _ _ v w o (vInt i) h1
        unfold law25_GridOrders_l38
        rw [(rc.fr f1).len, Go.X.binOp_lss, bindO_some, condP_bool]
        by_cases hlt : i < cs.length
        · rw [if_pos (by simp; omega)]
          obtain ⟨b, q, e1, e2⟩ := (rc.fr f1).ix hlt
          rw [e1, bindO_some, e2, bindO_some]
          refine (grid_Drop_res f1 ho.read (by omega) _ _ _).mono ?_
          rintro v2 h2 ⟨g1, g2, g3⟩
          rw [Go.X.binOp_add, bindO_some, wrap64 (by omega) (by omega)]
          obtain ⟨p1, p2⟩ := drop_srt hs cs[i].1 cs[i].2.1 cs[i].2.2
          refine ⟨⟨g1, i + 1, v2, _, by simp, by omega, g3.up f1, p1, by omega⟩, ?_⟩
          show cs.length - ((i : Int) + 1).toNat < cs.length - (i : Int).toNat
          omega
        · rw [if_neg (by simp; omega)]
          refine LoopG.ind (fun s h' => h' = h1 ∧ ∃ (i : Nat), s = [v, o, vInt i] ∧ 1 ≤ i ∧ i ≤ os.length + 1)
            (fun s _ => match nthD s 2 with | .int _ i => os.length + 1 - i.toNat | _ => 0) ?_ ⟨rfl, 1, rfl, Nat.le_refl _, by omega⟩
          clear hi hlt
          clear i
          rintro s h2 ⟨rfl, i, rfl, hi1, hi⟩
          show law25_GridOrders_l58 _ _ v o (vInt i) h2
          unfold law25_GridOrders_l58
          rw [ho.read.len, Go.X.binOp_lss, bindO_some, condP_bool]
          by_cases hlt : i < os.length
          · rw [if_pos (by simp; omega), Go.X.binOp_sub, bindO_some, wrap64 (by omega) (by omega)]
            obtain ⟨b, q, e1, e2, e3⟩ := ho.read.ix (i := i - 1) (by omega)
            obtain ⟨b2, q2, d1, d2, d3⟩ := ho.read.ix hlt
            have hc1 : ((i : Int) - 1) = ((i - 1 : Nat) : Int) := by omega
            rw [hc1, e1, bindO_some, offA_ptr, bindO_some, Nat.add_zero, e3, bindO_some, d1, bindO_some, offA_ptr, bindO_some, Nat.add_zero, d3, bindO_some]
            refine CP_of (ref25_Less_res _ _ _ _ _ _ _) ?_
            have hl : lessC (os[i - 1]'(by omega)).s (os[i - 1]'(by omega)).c (os[i - 1]'(by omega)).r os[i].s os[i].c os[i].r = true := (lessC_iff _ _ _ _ _ _).2 (pw_get hs hlt (by omega))
            rw [hl, unOp_not, bindO_some, Bool.not_true, condP_f, Go.X.binOp_add, bindO_some, wrap64 (by omega) (by omega)]
            refine ⟨⟨rfl, i + 1, by simp, by omega, by omega⟩, ?_⟩
            show os.length + 1 - ((i : Int) + 1).toNat < os.length + 1 - (i : Int).toNat
            omega
          · rw [if_neg (by simp; omega), ho.read.len, (r.fr f1).len, Go.X.binOp_leq, bindO_some, boolP_bool, if_pos (by simp; omega)]
            refine CP_of (hkn h2) ?_
            exact ⟨rfl, f1⟩
end Go.Proofs.YthbmhdlbphkljaaGreatDoor
