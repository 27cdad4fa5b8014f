/- A part of the evaluator of the model, and of the proof that what it answers is what a call comes to. No conditions of its own. -/
import Derived.Test.YthbmhdlbphkljaaGreatDoorYh
import Derived.Deep.Slices
import Derived.RowKit
import Derived.ChangeSame
import Derived.Below
namespace Go.X
open Go Go.ChangeShapes Go.WideShapes Go.Deep

/-! arguments: slices of structs whose cells are numbers, truths and texts -/
inductive Leaf | int (k : IntKind) | bool | str
def Leaf.fits : Leaf → Value → Prop
  | .int k, v => ∃ n, v = .int k n
  | .bool, v => ∃ b, v = .bool b
  | .str, v => ∃ s, v = .string s
inductive Leaves : List Leaf → List Value → Prop
  | nil : Leaves [] []
  | cons {l : Leaf} {v : Value} {ls : List Leaf} {vs : List Value} (h : l.fits v) (t : Leaves ls vs) : Leaves (l :: ls) (v :: vs)
theorem Leaves.len {ls : List Leaf} {vs : List Value} (h : Leaves ls vs) : vs.length = ls.length := by
  induction h with
  | nil => rfl
  | cons _ _ ih => simp [ih]
theorem Leaves.app {l1 l2 : List Leaf} {v1 v2 : List Value} (h : Leaves l1 v1) (k : Leaves l2 v2) : Leaves (l1 ++ l2) (v1 ++ v2) := by
  induction h with
  | nil => exact k
  | cons h _ ih => exact .cons h ih
theorem Leaf.rel (ρ : Rho) {l : Leaf} {v : Value} (h : l.fits v) : VRel ρ v v := by
  cases l with
  | int k => obtain ⟨n, rfl⟩ := h; exact .int _ _
  | bool => obtain ⟨n, rfl⟩ := h; exact .bool _
  | str => obtain ⟨n, rfl⟩ := h; exact .string _
theorem Leaves.rel (ρ : Rho) {ls : List Leaf} {vs : List Value} (h : Leaves ls vs) : VRels ρ vs vs := by
  induction h with
  | nil => exact .nil
  | cons h _ ih => exact .cons _ _ _ _ (Leaf.rel ρ h) ih
theorem Leaves.get {ls : List Leaf} {vs : List Value} (h : Leaves ls vs) : ∀ v ∈ vs, ∃ l : Leaf, l.fits v := by
  induction h with
  | nil => intro v h; cases h
  | cons h _ ih =>
    intro v hv
    cases hv with
    | head => exact ⟨_, h⟩
    | tail _ q => exact ih v q
def leavesF (P : Program) (g : TypeId → Option (List Leaf)) : List Field → Nat → Option (List Leaf)
  | [], _ => some []
  | f :: fs, o => (g f.type).bind fun l => (bif Nat.beq f.offset o && Nat.beq (P.cellsOf f.type) l.length then (leavesF P g fs (o + l.length)).bind fun r => some (l ++ r) else none)
def leaves (P : Program) : Nat → TypeId → Option (List Leaf)
  | 0, _ => none
  | n + 1, t => match P.underlying t with
    | some .bool => some [.bool]
    | some (.int k) => some [.int k]
    | some .string => some [.str]
    | some (.struct fs) => (leavesF P (leaves P n) fs.toList 0).bind fun ls => bif Nat.beq (P.cellsOf t) ls.length then some ls else none
    | _ => none
section
variable {HH : Type} {enc : TypeId × Value → HH} {P : Program} {w : World} {base : Nat} {spare : Nat → Bool} {held : Bool}
theorem leavesF_sound {g : TypeId → Option (List Leaf)} {cs : List Value} {m : Nat}
    (hg : ∀ t cs x ls, g t = some ls → DataW.trod enc P w base spare held m t cs = some x → Leaves ls cs) :
    ∀ (fs : List Field) (o : Nat) (ls : List Leaf), leavesF P g fs o = some ls → (∀ f ∈ fs, ∃ y, DataW.trod enc P w base spare held m f.type ((cs.drop f.offset).take (P.cellsOf f.type)) = some y) → Leaves ls ((cs.drop o).take ls.length) := by
  intro fs
  induction fs with
  | nil => intro o ls h _; cases h; simpa using Leaves.nil
  | cons f fs ih =>
    intro o ls h hf
    obtain ⟨l, hl, h⟩ := bind_some h
    obtain ⟨hc, h⟩ := bif_some h
    obtain ⟨r, hr, h⟩ := bind_some h
    cases h
    simp only [Bool.and_eq_true, natBeq_eq, decide_eq_true_eq] at hc
    obtain ⟨y, hy⟩ := hf f (.head _)
    rw [hc.1, hc.2] at hy
    have h1 := hg _ _ _ _ hl hy
    have h2 := ih _ _ hr (fun f hm => hf f (.tail _ hm))
    have e : (cs.drop o).take (l ++ r).length = (cs.drop o).take l.length ++ (cs.drop (o + l.length)).take r.length := by
      rw [List.length_append, List.take_add, List.drop_drop]
    rw [e]
    exact h1.app h2
theorem leaves_sound : ∀ (n : Nat) (m : Nat) (t : TypeId) (cs : List Value) (x : DataW HH × List MemPlace) (ls : List Leaf), leaves P n t = some ls → DataW.trod enc P w base spare held m t cs = some x → Leaves ls cs := by
  intro n
  induction n with
  | zero => intro m t cs x ls h; cases h
  | succ n ih =>
    intro m t cs x ls h hx
    unfold leaves at h
    split at h
    · rename_i ht; cases h
      obtain ⟨b, rfl, _⟩ := DataW.trod_bool ht hx
      exact .cons ⟨b, rfl⟩ .nil
    · rename_i ht; cases h
      obtain ⟨b, rfl, _⟩ := DataW.trod_int ht hx
      exact .cons ⟨b, rfl⟩ .nil
    · rename_i ht; cases h
      obtain ⟨b, rfl, _⟩ := DataW.trod_string ht hx
      exact .cons ⟨b, rfl⟩ .nil
    · rename_i fs ht
      obtain ⟨l, hl, h⟩ := bind_some h
      obtain ⟨hc, h⟩ := bif_some h
      cases h
      rw [natBeq_eq, decide_eq_true_eq] at hc
      obtain ⟨xs, m', _, _, hlen, hxl, hf⟩ := DataW.trod_struct ht hx
      have := leavesF_sound (enc := enc) (w := w) (base := base) (spare := spare) (held := held) (cs := cs) (m := m') (fun t cs x ls a b => ih m' t cs x ls a b) fs.toList 0 _ hl (fun f hm => by
        obtain ⟨i, hi, rfl⟩ := List.getElem_of_mem hm
        have hi' : i < fs.size := by simpa using hi
        have := hf i _ (Array.getElem?_eq_getElem hi')
        rw [List.getElem?_eq_getElem (by omega)] at this
        exact ⟨_, by simpa using this⟩)
      rw [List.drop_zero, List.take_of_length_le (by omega)] at this
      exact this
    · cases h
end
/-- a block that is only read -/
theorem addRo {ρ : Rho} {h : H} {W : World} (hH : HRel ρ h W) (hro : ∀ b x, h.get b = some x → roB x = true) {B : Nat} {C : Array Value} {e : TypeId} {F : Nat × Nat} (hB : W.heap[B]? = some (.cells C e F)) {c : List Value}
    (hle : c.length ≤ C.size) (hc : ∀ (i : Nat) (v : Value), c[i]? = some v → ∃ V, C[i]? = some V ∧ VRel ρ v V) :
    HRel (ρ.add h.next ⟨B, 0, c.length, 0, C.size⟩) (h.new (.row ⟨c, e, 0, 0, true⟩)) W ∧ (∀ b x, (h.new (.row ⟨c, e, 0, 0, true⟩)).get b = some x → roB x = true) ∧ ρ.le (ρ.add h.next ⟨B, 0, c.length, 0, C.size⟩) := by
  have hnone : ρ h.next = none := by
    cases e : ρ h.next with
    | none => rfl
    | some q => have := (hH.dom _ _ e).1; omega
  have hl := ρ.add_le h.next ⟨B, 0, c.length, 0, C.size⟩ hnone
  have hBs : B < W.heap.size := by
    rcases Nat.lt_or_ge B W.heap.size with q | q
    · exact q
    · rw [Array.getElem?_eq_none q] at hB; cases hB
  have hr' : ∀ b x, (h.new (.row ⟨c, e, 0, 0, true⟩)).get b = some x → roB x = true := by
    intro b x hx
    rw [H.get_new] at hx
    split at hx
    · cases hx; rfl
    · exact hro b x hx
  refine ⟨⟨?_, ?_, ?_, ?_⟩, hr', hl⟩
  · intro b x r h1 h2
    rw [H.get_new] at h1
    by_cases q : b = h.next
    · subst q
      rw [if_pos rfl] at h1; cases h1
      rw [Rho.add_same] at h2; cases h2
      refine ⟨C, F, hB, rfl, rfl, ⟨rfl, fun _ => rfl⟩, by simpa using hle, fun i v hv => ?_, fun q => by cases q⟩
      obtain ⟨V, hV, hr⟩ := hc i v hv
      exact ⟨V, by simpa using hV, hr.mono hl⟩
    · rw [if_neg q] at h1
      have h2' : ρ b = some r := by
        have : (ρ.add h.next ⟨B, 0, c.length, 0, C.size⟩) b = ρ b := if_neg q
        rw [this] at h2; exact h2
      exact (hH.obj b x r h1 h2').mono hl rfl
  · intro b b' x x' r r' h1 h1' _ _ _ q
    rw [hr' b x h1, hr' b' x' h1'] at q; cases q
  · intro b r h2
    by_cases q : b = h.next
    · subst q
      rw [Rho.add_same] at h2; cases h2
      exact ⟨by rw [H.next_new]; omega, hBs⟩
    · have h2' : ρ b = some r := by
        have : (ρ.add h.next ⟨B, 0, c.length, 0, C.size⟩) b = ρ b := if_neg q
        rw [this] at h2; exact h2
      have := hH.dom b r h2'
      exact ⟨by rw [H.next_new]; omega, this.2⟩
  · intro b hb
    rw [H.next_new] at hb
    rw [H.get_new, if_neg (by omega)]
    exact hH.fresh b (by omega)
theorem take_parts (s : Nat) (l : List Value) : ∀ n, l.take (s * n) = ((List.range n).map fun i => (l.drop (i * s)).take s).flatten := by
  intro n
  induction n with
  | zero => simp
  | succ n ih =>
    rw [List.range_succ, List.map_append, List.flatten_append, ← ih, Nat.mul_succ, List.take_add]
    simp [Nat.mul_comm]
/-- a slice that is an argument -/
structure ArgSl (h : H) (ls : List Leaf) (b o len cap : Nat) (rows : List (List Value)) : Prop where
  lt : b < h.next
  row : ∃ x, h.row b = some x ∧ x.osz = 0 ∧ (x.cs.drop o).take (ls.length * len) = rows.flatten
  hlen : rows.length = len
  hcap : len ≤ cap
  fits : ∀ r ∈ rows, Leaves ls r
theorem open_arg {HH : Type} {enc : TypeId × Value → HH} {P : Program} {W : World} {ρ : Rho} {h : H} (hH : HRel ρ h W) (hro : ∀ b x, h.get b = some x → roB x = true) {t e : TypeId} {n base : Nat} {ls : List Leaf} {v : Value} {d : DataW HH} {p : List MemPlace}
    (ht : P.underlying t = some (.slice e)) (hl : leaves P n e = some ls) (ce : P.cellsOf e = ls.length) (hs0 : 0 < ls.length) (hok : Value.okWide P W .any base t v) (hd : DataW.Trod enc P W 0 (fun _ => true) true t v d p) :
    ∃ ρ' h' av, HRel ρ' h' W ∧ (∀ b x, h'.get b = some x → roB x = true) ∧ ρ.le ρ' ∧ Fr h h' ∧ VRel ρ' av v ∧ (av = .slice none 0 0 ∨ ∃ b o len cap rows, av = .slice (some ⟨b, o, none⟩) len cap ∧ ArgSl h' ls b o len cap rows) := by
  obtain ⟨a0, len0, cap0, rfl⟩ := okWide_slice ht hok
  obtain ⟨fuel, hx⟩ := hd
  rcases open_slice ht hx with ⟨h0, _⟩ | ⟨a, len, cap, m, k, D, Pl, hv, _, hlc, _, hm, _, hel⟩
  · cases h0
    exact ⟨ρ, h, .slice none 0 0, hH, hro, ρ.le_refl, Fr.refl h, .snil 0 0, .inl rfl⟩
  · obtain ⟨q1, q2, q3⟩ : a0 = some a ∧ len0 = len ∧ cap0 = cap := by cases hv; exact ⟨rfl, rfl, rfl⟩
    have hm' : m = cap := by simpa using hm
    subst a0; subst len0; subst cap0; subst cap
    have hhas : W.has P .any base a e m := by
      have hok' := hok
      unfold Value.okWide at hok'
      rw [ht] at hok'
      unfold Cell.okWide at hok'
      rw [ht] at hok'
      unfold Cell.ok at hok'
      rw [ht] at hok'
      exact hok'.2.2
    obtain ⟨_, hspot, row, cells, hsh, _⟩ := hhas
    obtain ⟨B, off, sp⟩ := a
    cases hspot
    obtain ⟨C, F, hB, hCs⟩ : ∃ C F, W.heap[B]? = some (.cells C row F) ∧ cells = C.size := by
      unfold World.shape? at hsh
      split at hsh
      · rename_i c el fr hh; cases hsh; exact ⟨c, fr, hh, rfl⟩
      · cases hsh
    have hel' : ∀ i, i < len → Leaves ls ((C.toList.drop (off + i * ls.length)).take ls.length) ∧ off + i * ls.length + ls.length ≤ C.size := by
      intro i hi
      obtain ⟨cs', h1, h2⟩ := hel i (by omega)
      have hL := leaves_sound n k e cs' _ ls hl h2
      obtain ⟨_, hlen, hcell⟩ := World.cells?_some h1
      rw [ce] at hlen hcell
      have hg : ∀ j, j < ls.length → C[off + i * ls.length + j]? = cs'[j]? := by
        intro j hj
        have := hcell j hj
        rw [add_plain, add_plain] at this
        unfold World.cell? at this
        rw [hB] at this
        simpa using this
      have hsz : off + i * ls.length + ls.length ≤ C.size := by
        have := hg (ls.length - 1) (by omega)
        rw [List.getElem?_eq_getElem (by omega)] at this
        rcases Nat.lt_or_ge (off + i * ls.length + (ls.length - 1)) C.size with q | q
        · omega
        · rw [Array.getElem?_eq_none q] at this; cases this
      have : (C.toList.drop (off + i * ls.length)).take ls.length = cs' := by
        apply List.ext_getElem?
        intro j
        by_cases hj : j < ls.length
        · rw [List.getElem?_take_of_lt hj, List.getElem?_drop, Array.getElem?_toList]; exact hg j hj
        · rw [List.getElem?_eq_none (by simp; omega), List.getElem?_eq_none (by omega)]
      rw [this]
      exact ⟨hL, hsz⟩
    have hrowsz : len = 0 ∨ off + ls.length * len ≤ C.size := by
      rcases Nat.eq_zero_or_pos len with q | q
      · exact .inl q
      · right
        have := (hel' (len - 1) (by omega)).2
        have e1 : ls.length * len = (len - 1) * ls.length + ls.length := by
          rw [← Nat.succ_mul, Nat.mul_comm]; congr 1; omega
        omega
    have hparts := take_parts ls.length (C.toList.drop off) len
    have hrows : ∀ r ∈ (List.range len).map fun i => ((C.toList.drop off).drop (i * ls.length)).take ls.length, Leaves ls r := by
      intro r hr
      obtain ⟨i, hi, rfl⟩ := List.mem_map.1 hr
      rw [List.drop_drop]
      exact (hel' i (List.mem_range.1 hi)).1
    have hflat : ∀ v ∈ (C.toList.drop off).take (ls.length * len), ∃ l : Leaf, l.fits v := by
      intro v hv
      rw [hparts] at hv
      obtain ⟨r, hr, hvr⟩ := List.mem_flatten.1 hv
      exact (hrows r hr).get v hvr
    have fin : ∀ c : List Value, c.length ≤ C.size → (∀ (i : Nat) (v : Value), c[i]? = some v → ∃ V, C[i]? = some V ∧ VRel ρ v V) → (c.drop off).take (ls.length * len) = (C.toList.drop off).take (ls.length * len) →
        ∃ ρ' h' av, HRel ρ' h' W ∧ (∀ b x, h'.get b = some x → roB x = true) ∧ ρ.le ρ' ∧ Fr h h' ∧ VRel ρ' av (.slice (some ⟨B, off, none⟩) len m) ∧ (av = .slice none 0 0 ∨ ∃ b o len cap rows, av = .slice (some ⟨b, o, none⟩) len cap ∧ ArgSl h' ls b o len cap rows) := by
      intro c hc1 hc2 hc3
      obtain ⟨g1, g2, g3⟩ := addRo hH hro hB hc1 hc2
      refine ⟨_, _, .slice (some ⟨h.next, off, none⟩) len m, g1, g2, g3, ⟨by rw [H.next_new]; omega, fun b hb => by rw [H.get_new, if_neg (by omega)]⟩, ?_, .inr ⟨h.next, off, len, m, _, rfl, ⟨by rw [H.next_new]; omega, ⟨⟨c, row, 0, 0, true⟩, ?_, rfl, ?_⟩, ?_, hlc, hrows⟩⟩⟩
      · refine .slice _ _ _ _ _ _ ⟨B, 0, c.length, 0, C.size⟩ (Rho.add_same _ _ _) ?_
        unfold SRel
        rw [if_neg (by simp)]
        simp
      · unfold H.row
        rw [H.get_new, if_pos rfl]
      · show (c.drop off).take _ = _
        rw [hc3, hparts]
      · simp
    rcases hrowsz with q | q
    · subst q
      exact fin [] (Nat.zero_le _) (fun i v hv => by simp at hv) (by simp)
    · have hlen2 : ((C.toList.drop off).take (ls.length * len)).length = ls.length * len := by simp; omega
      refine fin (List.replicate off unk ++ (C.toList.drop off).take (ls.length * len)) (by rw [List.length_append, hlen2, List.length_replicate]; exact q) ?_ ?_
      · intro i v hv
        by_cases hi : i < off
        · rw [List.getElem?_append_left (by simpa using hi), List.getElem?_replicate, if_pos hi] at hv
          cases hv
          exact ⟨_, Array.getElem?_eq_getElem (by omega), .unk _⟩
        · rw [List.getElem?_append_right (by simpa using hi), List.length_replicate] at hv
          have hm := List.mem_of_getElem? hv
          obtain ⟨l, hl⟩ := hflat v hm
          have hi2 : i - off < ls.length * len := by
            rcases Nat.lt_or_ge (i - off) (ls.length * len) with q | q
            · exact q
            · rw [List.getElem?_eq_none (by omega)] at hv; cases hv
          rw [List.getElem?_take_of_lt hi2, List.getElem?_drop, show off + (i - off) = i by omega, Array.getElem?_toList] at hv
          exact ⟨v, hv, Leaf.rel ρ hl⟩
      · rw [List.drop_append, List.drop_of_length_le (by simp), List.length_replicate, Nat.sub_self, List.drop_zero, List.nil_append, List.take_take, Nat.min_self]
/-- from a contract to the machine -/
theorem walk_of {P : Program} {f : FuncId} {avs : List Value} {h h' : H} {b : Bool} (hs : SoundCall P f avs h (.v (.bool b) h')) {ρ : Rho} {W : World} (hH : HRel ρ h W) (hro : ∀ b x, h.get b = some x → roB x = true) {ARGS : List Value} (hA : VRels ρ avs ARGS) :
    Calls P f ARGS.toArray W fun e W' => e = .returned (.bool b) ∧ RowKit.Below W.heap.size W W' := by
  obtain ⟨_, v', h2, e, hc⟩ := hs
  cases e
  refine (hc ρ ARGS W hA hH).mono ?_
  intro e W' hp
  cases e with
  | returned V =>
    obtain ⟨ρ', hv, _, hx⟩ := hp
    cases hv
    exact ⟨rfl, hx.os, hx.tape, hx.output, hx.size, fun k hk => hx.kept k hk fun b x r h1 h2 => by rw [hro b x h1] at h2; cases h2⟩
  | panicked _ => exact hp.elim
  | outgrown => exact hp.elim
theorem hrel0 (W : World) : HRel (fun _ => none) ⟨.e, 0⟩ W := ⟨fun b x r h => (by cases h), fun b b' x x' r r' h => (by cases h), fun b r h => (by cases h), fun b _ => rfl⟩
theorem ro0 : ∀ b x, (⟨.e, 0⟩ : H).get b = some x → roB x = true := fun b x h => by cases h
end Go.X
