/- A part of the evaluator of the model, and of the proof that what it answers is what a call comes to. No conditions of its own. -/
import Derived.Test.YthbmhdlbphkljaaGreatDoorYc
namespace Go.X
open Go
variable {P : Program} {E : Env}

theorem onAE_normal {K : Prop} {e : AE} (h : onAE e K (fun _ => False) (fun _ => False) False) : e = .normal ∧ K := by
  cases e with
  | normal => exact ⟨rfl, h⟩
  | exit id => exact h.elim
  | goto l => exact h.elim
  | ret => exact h.elim
theorem AfterK.mono {N base : Nat} {ρ : Rho} {h : H} {W : World} {K K' : Kont} (hk : ∀ e t h, K e t h → K' e t h) {e : Exit} {a : Act} {w : World} (x : AfterK N base ρ h W K e a w) : AfterK N base ρ h W K' e a w := by
  obtain ⟨e', t', h', k, r⟩ := x
  exact ⟨e', t', h', hk _ _ _ k, r⟩
theorem AfterK.trans {N base : Nat} {ρ ρ1 : Rho} {h h1 : H} {W W1 : World} {K : Kont} (x : Ext ρ h W ρ1 h1 W1) {e : Exit} {a : Act} {w : World} (y : AfterK N base ρ1 h1 W1 K e a w) : AfterK N base ρ h W K e a w := by
  obtain ⟨e', t', h', k, k1, k3, ρ', k4, k5, k6, k7⟩ := y
  exact ⟨e', t', h', k, k1, k3, ρ', k4, k5, x.trans k6, k7⟩
theorem WpS.mono {top : Bool} {N : Nat} {c : Code} {t : B} {h : H} {K K' : Kont} (x : WpS P top N c t h K) (hk : ∀ e t h, K e t h → K' e t h) : WpS P top N c t h K' :=
  fun rr base ρ a W hR hb hT hH hn hM => (x rr base ρ a W hR hb hT hH hn hM).mono fun e a w q => q.mono hk

/-- places of which nothing is known -/
def B.le (t t' : B) : Prop := ∀ ρ T, TRel ρ t T → TRel ρ t' T
theorem B.mkU_sz (f : Nat) : ∀ n, n ≤ f → Sz (B.mkU f n) n := by
  induction f with
  | zero => intro n h; have : n = 0 := by omega
            subst this; exact .nil
  | succ f ih =>
    intro n hn
    show Sz (Bool.rec (motive := fun _ => B) (Bool.rec (motive := fun _ => B) .nil (.leaf unk) (Nat.beq n 1)) (.node (B.mkU f (Nat.div (Nat.add n 1) 2)) (B.mkU f (Nat.div n 2))) (Nat.ble 2 n)) n
    cases e : Nat.ble 2 n with
    | true =>
      have h2 := Nat.le_of_ble_eq_true e
      exact .node _ _ _ h2 (ih _ (by show (n + 1) / 2 ≤ _; omega)) (ih _ (by show n / 2 ≤ _; omega))
    | false =>
      have h2 : ¬ 2 ≤ n := fun h => by rw [Nat.ble_eq_true_of_le h] at e; cases e
      cases n with
      | zero => exact .nil
      | succ n => cases n with
        | zero => exact .leaf _
        | succ n => omega
theorem B.mkU_get (f : Nat) : ∀ n k, n ≤ f → (B.mkU f n).get k = if k < n then unk else undef := by
  induction f with
  | zero => intro n k h; have : n = 0 := by omega
            subst this; rfl
  | succ f ih =>
    intro n k hn
    show (Bool.rec (motive := fun _ => B) (Bool.rec (motive := fun _ => B) .nil (.leaf unk) (Nat.beq n 1)) (.node (B.mkU f (Nat.div (Nat.add n 1) 2)) (B.mkU f (Nat.div n 2))) (Nat.ble 2 n) : B).get k = _
    cases e : Nat.ble 2 n with
    | true =>
      have h2 := Nat.le_of_ble_eq_true e
      show (B.node (B.mkU f ((n + 1) / 2)) (B.mkU f (n / 2))).get k = _
      rw [B.get_node, ih _ _ (by omega), ih _ _ (by omega)]
      by_cases hk : k % 2 = 0
      · rw [if_pos hk]
        by_cases hl : k < n
        · rw [if_pos hl, if_pos (by omega)]
        · rw [if_neg hl, if_neg (by omega)]
      · rw [if_neg hk]
        by_cases hl : k < n
        · rw [if_pos hl, if_pos (by omega)]
        · rw [if_neg hl, if_neg (by omega)]
    | false =>
      have h2 : ¬ 2 ≤ n := fun h => by rw [Nat.ble_eq_true_of_le h] at e; cases e
      cases n with
      | zero => show B.nil.get k = _; rw [if_neg (by omega)]; rfl
      | succ n => cases n with
        | zero =>
          show (B.leaf unk).get k = _
          rw [B.get_leaf]
          by_cases hk : k = 0
          · rw [if_pos hk, if_pos (by omega)]
          · rw [if_neg hk, if_neg (by omega)]
        | succ n => omega
theorem nthD_eq (l : List Value) : ∀ i, nthD l i = (l[i]?).getD undef := by
  induction l with
  | nil => intro i; rfl
  | cons a l ih => intro i; cases i with
    | zero => rfl
    | succ i => show nthD l i = _; rw [ih]; rfl
theorem setKs_le {ρ : Rho} {T : Array Value} {t : B} (hT : TRel ρ t T) (s : List Value) : ∀ (ks : List Nat) (i : Nat) (b : B), (∀ j k, ks[j]? = some k → nthD s (i + j) = t.get k) → TRel ρ b T → TRel ρ (setKs s ks i b) T := by
  intro ks
  induction ks with
  | nil => intro i b _ hb; exact hb
  | cons k ks ih =>
    intro i b hs hb
    show TRel ρ (setKs s ks (i + 1) (b.set k (nthD s i))) T
    refine ih _ _ (fun j k' e => by rw [show i + 1 + j = i + (j + 1) by omega]; exact hs (j + 1) k' (by simpa using e)) ⟨hb.1.set k _, fun j => ?_⟩
    rw [hb.1.get_set]
    by_cases e : j = k ∧ k < T.size
    · rw [if_pos e, e.1, show nthD s i = t.get k from by simpa using hs 0 k rfl]; exact hT.2 k
    · rw [if_neg e]; exact hb.2 j
theorem getKs_eq (t : B) (ks : List Nat) : getKs t ks = ks.map t.get := by
  induction ks with
  | nil => rfl
  | cons k ks ih => show t.get k :: getKs t ks = _; rw [ih]; rfl
theorem mkL_le {n : Nat} {ρ : Rho} {T : Array Value} {t : B} (ks : List Nat) (hT : TRel ρ t T) (hn : T.size = n) : TRel ρ (mkL n ks (getKs t ks)) T := by
  refine setKs_le hT _ ks 0 _ (fun j k e => by rw [nthD_eq, getKs_eq, Nat.zero_add, List.getElem?_map, e]; rfl) ⟨by rw [hn]; exact B.mkU_sz n n (Nat.le_refl _), fun k => ?_⟩
  rw [B.mkU_get _ _ _ (Nat.le_refl _)]
  by_cases hk : k < n
  · rw [if_pos hk]; exact .unk _
  · rw [if_neg hk]
    have : T.getD k undef = undef := by rw [Array.getD_eq_getD_getElem?, Array.getElem?_eq_none (by omega)]; rfl
    rw [this]; exact VRel.undef ρ

theorem region_soundC (hE : EnvOk P E) {top : Bool} {N id : Nat} {ops : Array Oper} {draw : Bool} {t : B} {h : H} {K : B → H → Prop} (hh : regionC P E ops draw t h K) : WpS P top N (.region id ops draw) t h (fun e t h => onAE e (K t h) (fun _ => False) (fun _ => False) False) := by
  intro rr base ρ a W hR hb hT hH hn hM
  cases draw with
  | false => exact from_of (fun _ q => by cases q) (wpIn_region_list (opsC_sound hE ops.toList 0 [] t h ρ a W hh hT hH (Ext.refl _ _ _) hM hn))
  | true =>
    obtain ⟨ps, hps, h1⟩ := bindO_iff.1 (show bindO (drawOk E ops.toList) _ from hh)
    obtain ⟨h', al, hl, h2⟩ := layC_sound ops.toList 0 h [] h1
    have hT' := drawC_sound hE (N := a.tmps.size) ops.toList 0 [] [] [] t h' hT.1 (fun x hx => by cases hx) h2
    refine (exec_drawnW hE hps hl hT' hT hH hM).mono ?_
    rintro e a1 W1 ⟨t', h'', ⟨hsz, hk⟩, rfl, hs, ρ1, k1, k2, k3, k4⟩
    exact ⟨.normal, t', h'', hk, rfl, hs.trans hn, ρ1, k1, k2, k3, k4⟩

theorem seq_soundC {top : Bool} {N : Nat} {x y : Code} {t : B} {h : H} {K1 K : Kont} (h1 : WpS P top N x t h K1) (hn : ∀ t h, K1 .normal t h → WpS P top N y t h K) (he : ∀ e t h, e ≠ .normal → K1 e t h → K e t h) : WpS P top N (.seq x y) t h K := by
  intro rr base ρ a W hR hb hT hH hs hM
  refine from_of (fun _ q => by cases q) (wpIn_seq (x := x) (y := y) (entry_wp ((h1 rr base ρ a W hR hb hT hH hs hM).mono ?_)))
  rintro e a1 W1 ⟨e', t', h', k, rfl, hs', ρ1, k1, k2, k3, k4⟩
  cases e' with
  | normal =>
    refine entry_wp ((hn _ _ k rr base ρ1 a1 W1 hR (Nat.le_trans hb k3.size) k1 k2 hs' k4).mono ?_)
    intro e a2 W2 hA
    exact AfterK.trans k3 hA
  | exit id => exact ⟨.exit id, t', h', he _ _ _ (fun q => by cases q) k, rfl, hs', ρ1, k1, k2, k3, k4⟩
  | goto l => exact ⟨.goto l, t', h', he _ _ _ (fun q => by cases q) k, rfl, hs', ρ1, k1, k2, k3, k4⟩
  | ret => exact ⟨.ret, t', h', he _ _ _ (fun q => by cases q) k, rfl, hs', ρ1, k1, k2, k3, k4⟩
theorem cond_soundC {top : Bool} {N : Nat} {c : Operand} {x y : Code} {t : B} {h : H} {K : Kont} (b : Bool) (hbb : ev t c = .bool b) (h1 : WpS P top N (if b then x else y) t h K) : WpS P top N (.cond c x y) t h K := by
  intro rr base ρ a W hR hb hT hH hs hM
  have hc : a.eval c = .bool b := by
    have := ev_rel hT c
    rw [hbb] at this
    revert this; generalize a.eval c = q; intro this; cases this; rfl
  exact from_of (fun _ q => by cases q) (wpIn_cond hc (entry_wp (h1 rr base ρ a W hR hb hT hH hs hM)))
theorem block_soundC {top : Bool} {N id : Nat} {x : Code} {t : B} {h : H} {K : Kont} (h1 : WpS P top N x t h (blockKt id K)) : WpS P top N (.block id x) t h K := by
  intro rr base ρ a W hR hb hT hH hs hM
  refine from_of (fun _ q => by cases q) (wpIn_block (entry_wp ((h1 rr base ρ a W hR hb hT hH hs hM).mono ?_)))
  rintro e a1 W1 ⟨e', t', h', k, rfl, hs', ρ1, k1, k2, k3, k4⟩
  cases e' with
  | normal => exact ⟨.normal, t', h', k, rfl, hs', ρ1, k1, k2, k3, k4⟩
  | goto l => exact ⟨.goto l, t', h', k, rfl, hs', ρ1, k1, k2, k3, k4⟩
  | ret => exact ⟨.ret, t', h', k, rfl, hs', ρ1, k1, k2, k3, k4⟩
  | exit j =>
    have k' : Bool.rec (motive := fun _ => Prop) (K (.exit j) t' h') (K .normal t' h') (Nat.beq j id) := k
    rw [natBeq_eq] at k'
    show if j = id then _ else _
    by_cases e : j = id
    · rw [if_pos e]; simp only [e, decide_true] at k'; exact ⟨.normal, t', h', k', rfl, hs', ρ1, k1, k2, k3, k4⟩
    · rw [if_neg e]; simp only [e, decide_false] at k'; exact ⟨.exit j, t', h', k', rfl, hs', ρ1, k1, k2, k3, k4⟩
/-- one round and then the loop -/
theorem loop_soundC {top : Bool} {N : Nat} {b : Code} {t : B} {h : H} {K1 K : Kont} (h1 : WpS P top N b t h K1) (hn : ∀ t h, K1 .normal t h → WpS P top N (.loop b) t h K) (he : ∀ e t h, e ≠ .normal → K1 e t h → K e t h) : WpS P top N (.loop b) t h K := by
  intro rr base ρ a W hR hb hT hH hs hM fr k cs hro
  obtain ⟨e', a1, W1, ⟨e, t', h', q, rfl, hs', ρ1, k1, k2, k3, k4⟩, harr⟩ := entry_wp (h1 rr base ρ a W hR hb hT hH hs hM) fr (.inLoop b :: k) cs hro trivial (room_FW _ _)
  cases e with
  | normal =>
    obtain ⟨e'', a2, W2, hA, harr2⟩ := hn _ _ q rr base ρ1 a1 W1 hR (Nat.le_trans hb k3.size) k1 k2 hs' k4 fr k cs hro
    exact ⟨e'', a2, W2, AfterK.trans k3 hA, .of_steps (StepsIn.trans harr (si1 stepR_inLoop)) harr2⟩
  | exit j => exact ⟨_, a1, W1, ⟨_, t', h', he _ _ _ (fun q => by cases q) q, rfl, hs', ρ1, k1, k2, k3, k4⟩, .pass (x := .inLoop b) rfl (fun _ _ => .inl (fun q => by cases q)) harr⟩
  | goto j => exact ⟨_, a1, W1, ⟨_, t', h', he _ _ _ (fun q => by cases q) q, rfl, hs', ρ1, k1, k2, k3, k4⟩, .pass (x := .inLoop b) rfl (fun _ _ => .inl (fun q => by cases q)) harr⟩
  | ret => exact ⟨_, a1, W1, ⟨_, t', h', he _ _ _ (fun q => by cases q) q, rfl, hs', ρ1, k1, k2, k3, k4⟩, .pass (x := .inLoop b) rfl (fun _ _ => .inl (fun q => by cases q)) harr⟩
theorem WpS.le {top : Bool} {N : Nat} {c : Code} {t t' : B} {h : H} {K : Kont} (hw : WpS P top N c t' h K) (hle : ∀ ρ T, T.size = N → TRel ρ t T → TRel ρ t' T) : WpS P top N c t h K :=
  fun rr base ρ a W hR hb hT hH hs hM => hw rr base ρ a W hR hb (hle ρ _ hs hT) hH hs hM
/-- a kontinuation may be met with less known -/
theorem AfterK.le {N base : Nat} {ρ : Rho} {h : H} {W : World} {K K' : Kont} (hk : ∀ e t h, K e t h → ∃ t', K' e t' h ∧ ∀ ρ T, T.size = N → TRel ρ t T → TRel ρ t' T) {e : Exit} {a : Act} {w : World} (x : AfterK N base ρ h W K e a w) : AfterK N base ρ h W K' e a w := by
  obtain ⟨e', t', h', k, k1, k3, ρ', k4, k5, k6, k7⟩ := x
  obtain ⟨t2, q1, q2⟩ := hk _ _ _ k
  exact ⟨e', t2, h', q1, k1, k3, ρ', q2 _ _ k3 k4, k5, k6, k7⟩
theorem WpS.monoLe {top : Bool} {N : Nat} {c : Code} {t : B} {h : H} {K K' : Kont} (x : WpS P top N c t h K) (hk : ∀ e t h, K e t h → ∃ t', K' e t' h ∧ ∀ ρ T, T.size = N → TRel ρ t T → TRel ρ t' T) : WpS P top N c t h K' :=
  fun rr base ρ a W hR hb hT hH hn hM => (x rr base ρ a W hR hb hT hH hn hM).mono fun e a w q => q.le hk
/-- scopes -/
def WpSc (P : Program) (top : Bool) (N : Nat) (b c : Code) (t : B) (h : H) (K : Kont) : Prop :=
  ∀ (rr : Option Nat) (base : Nat) (ρ : Rho) (a : Act) (W : World), (top = true → rr = none) → base ≤ W.heap.size → TRel ρ t a.tmps → HRel ρ h W → a.tmps.size = N → Marks base ρ h W a.defers → From rr P (fun k => .code c :: .inScope b :: k) (AfterK N base ρ h W K) a W
theorem scope_soundC {top : Bool} {N : Nat} {b c : Code} {t : B} {h : H} {K1 K : Kont} (h1 : WpS P top N c t h K1) (hg : ∀ l t h, K1 (.goto l) t h → (findLabel b l = none ∧ K (.goto l) t h) ∨ ∃ rest, findLabel b l = some rest ∧ WpSc P top N b rest t h K) (he : ∀ e t h, (∀ l, e ≠ .goto l) → K1 e t h → K e t h) : WpSc P top N b c t h K := by
  intro rr base ρ a W hR hb hT hH hs hM fr k cs hro
  obtain ⟨e', a1, W1, ⟨e, t', h', q, rfl, hs', ρ1, k1, k2, k3, k4⟩, harr⟩ := entry_wp (h1 rr base ρ a W hR hb hT hH hs hM) fr (.inScope b :: k) cs hro trivial (room_FW _ _)
  cases e with
  | normal => exact ⟨_, a1, W1, ⟨.normal, t', h', he _ _ _ (fun _ q => by cases q) q, rfl, hs', ρ1, k1, k2, k3, k4⟩, StepsIn.trans harr (si1 stepR_inScope)⟩
  | exit j => exact ⟨_, a1, W1, ⟨.exit j, t', h', he _ _ _ (fun _ q => by cases q) q, rfl, hs', ρ1, k1, k2, k3, k4⟩, ⟨fun k' hk => harr.1 k' (by simpa [exitTo] using hk), fun h1 h2 => harr.2 h1 (by simpa [exitTo] using h2)⟩⟩
  | ret => exact ⟨_, a1, W1, ⟨.ret, t', h', he _ _ _ (fun _ q => by cases q) q, rfl, hs', ρ1, k1, k2, k3, k4⟩, harr⟩
  | goto l =>
    rcases hg _ _ _ q with ⟨hf, hk⟩ | ⟨rest, hf, hw⟩
    · exact ⟨_, a1, W1, ⟨.goto l, t', h', hk, rfl, hs', ρ1, k1, k2, k3, k4⟩, ⟨fun k' hk => harr.1 k' (by simpa [gotoIn, hf] using hk), fun h1 h2 => harr.2 h1 (by simpa [gotoIn, hf] using h2)⟩⟩
    · obtain ⟨e'', a2, W2, hA, harr2⟩ := hw rr base ρ1 a1 W1 hR (Nat.le_trans hb k3.size) k1 k2 hs' k4 fr k cs hro
      exact ⟨e'', a2, W2, AfterK.trans k3 hA, .of_steps (harr.1 _ (by simp [gotoIn, hf])) harr2⟩
theorem scope_enter {top : Bool} {N : Nat} {b : Code} {t : B} {h : H} {K : Kont} (hw : WpSc P top N b b t h K) : WpS P top N (.scope b) t h K := by
  intro rr base ρ a W hR hb hT hH hs hM fr k cs hro
  obtain ⟨e', a1, W1, hA, harr⟩ := hw rr base ρ a W hR hb hT hH hs hM fr k cs hro
  exact ⟨e', a1, W1, hA, .of_steps (si1 stepR_scope) harr⟩
theorem flat_soundC {top : Bool} {N : Nat} {c : Code} {t : B} {h : H} {K : Kont} (e : AE) (hc : ∀ (rr : Option Nat) (Q : Exit → Act → World → Prop) (a : Act) (w : World), Q (exitOf e) a w → c.wpIn (FW rr) 0 P Q a w) (hne : ∀ b, c ≠ .loop b) (hk : K e t h) : WpS P top N c t h K :=
  fun rr base ρ a W _ _ hT hH hs hM => from_of hne (hc rr _ _ _ ⟨e, t, h, hk, rfl, hs, ρ, hT, hH, Ext.refl _ _ _, hM⟩)

/-- a round: the values are taken, the body is run -/
theorem round_soundC {N : Nat} {t : B} {ps : List Tmp} {as bd : Code} {f0 : FuncId} {d0 : Nat} {l : Nat} {args : List Value} {h : H} {pd : Option Code} {Q : Value → H → Prop} (hS : Sz t N) {KA : Kont}
    (hg : h.get l = some (.loop .ready pd f0 t ps as bd d0)) (ha : WpS P false N as (setTmps t ps args) h KA)
    (hn : ∀ e t1 h1, KA e t1 h1 → e = .normal ∧ ∃ pd1, h1.get l = some (.loop .ready pd1 f0 t ps as bd d0) ∧
      WpS P false N bd t1 (h1.put l (.loop .busy pd1 f0 t ps as bd d0)) fun e _ h2 => (∃ s2 pd2, h2.get l = some (.loop s2 pd2 f0 t ps as bd d0)) ∧ Q (.bool (jv e)) (h2.put l (.loop (jst e) (jmp e) f0 t ps as bd d0)))
    (hl : ∃ v h', Q v h') : RoundW P l args h Q := by
  refine ⟨hl, ?_⟩
  intro rr st0 pd0 f00 tm0 ps0 as0 bd0 d00 ri T fn d ρ ARGS W e1 e2' e3 e4 e5 e6 hH
  rw [hg] at e1; cases e1
  have hN : T.size = N := e3.1.uniq _ hS
  have hT0 := setTmps_rel ps args ARGS t T e5 e6 e3
  have hT0' : TRel ρ (setTmps t ps args) ((ps.toArray.zip ARGS.toArray).foldl (fun tmps x => tmps.setIfInBounds x.1 x.2) T) := by
    have : (ps.toArray.zip ARGS.toArray).foldl (fun tmps x => tmps.setIfInBounds x.1 x.2) T = (ps.zip ARGS).foldl (fun tmps x => tmps.setIfInBounds x.1 x.2) T := by simp
    rw [this]; exact hT0
  refine roundIn_of_wpIn (F := FW rr) trivial ?_
  have hsz : ((ps.toArray.zip ARGS.toArray).foldl (fun tmps x => tmps.setIfInBounds x.1 x.2) T).size = N := by
    have gen : ∀ (l : List (Tmp × Value)) (T : Array Value), (l.foldl (fun tmps x => tmps.setIfInBounds x.1 x.2) T).size = T.size := by
      intro l
      induction l with
      | nil => intro T; rfl
      | cons x l ih => intro T; rw [List.foldl_cons, ih]; simp
    rw [← Array.foldl_toList, gen, hN]
  have hw := entry_wp (ha (some ri.blk) W.heap.size ρ { tmps := (ps.toArray.zip ARGS.toArray).foldl (fun tmps x => tmps.setIfInBounds x.1 x.2) T, defers := [] } W (fun q => by cases q) (Nat.le_refl _) hT0' hH hsz (Marks.nil _ _ _ _))
  refine Go.Code.wpIn_mono ?_ hw
  rintro e a1 W1 ⟨e0, t1, h1, hka, rfl, hs1, ρ1, k1, k2, k3, kM⟩
  obtain ⟨rfl, pd1, hg1, hwb⟩ := hn _ _ _ hka
  have hρ1 := k3.le _ _ e2'
  obtain ⟨T1, fn1, dd1, q1, q2⟩ := k2.obj l _ ri hg1 hρ1
  refine ⟨_, run_beginRound q2 rfl, ?_⟩
  have hkeep : ∀ C, C ≠ ri.blk → (W1.putObj ri.blk (.loop { state := .busy, pending := pd1, fn := fn1, tmps := T1, params := ps.toArray, assign := as, body := bd, defers := dd1 })).heap[C]? = W1.heap[C]? := fun C hC => World.putObj_heap_other hC
  have hH1 := k2.put l _ (.loop .busy pd1 f0 t ps as bd d0) ri hg1 rfl rfl hρ1 World.putObj_size hkeep ⟨T1, fn1, dd1, q1, putObj_loop q2⟩
  have hX1 := Ext.put l _ (.loop .busy pd1 f0 t ps as bd d0) ri hg1 rfl hρ1 World.putObj_size hkeep rfl rfl rfl
  have hw3 := entry_wp (hwb (some ri.blk) W.heap.size ρ1 a1 _ (fun q => by cases q) (by rw [World.putObj_size]; exact k3.size) k1 hH1 hs1 (kM.ext hX1))
  refine Go.Code.wpIn_mono ?_ hw3
  rintro e a2 W2 ⟨e2, t2, h2, ⟨⟨s2, pd2, hg2⟩, hQ⟩, rfl, hs2, ρ2, l1, l2, l3, lM⟩
  have hρ2 := l3.le _ _ hρ1
  obtain ⟨T2, fn2, dd2, r1, r2⟩ := l2.obj l _ ri hg2 hρ2
  have hX2 := (k3.trans hX1).trans l3
  have hjst : (if (jmp e2).isNone then LoopState.ready else .done) = jst e2 := by cases e2 <;> rfl
  have hjv : (jmp e2).isNone = jv e2 := by cases e2 <;> rfl
  have fin : ∃ v' w', (Instr.endRound ri.blk (jmp e2)).run P W2 = .ok v' w' ∧ ∃ v h', Q v h' ∧ CallPost ρ h W v h' (.returned v') w' := by
    have hend := run_endRound (P := P) (jmp e2) r2
    rw [hjst, hjv] at hend
    refine ⟨_, _, hend, _, _, hQ, ρ2, .bool _, ?_, ?_⟩
    · exact l2.put l _ _ ri hg2 rfl rfl hρ2 World.putObj_size (fun C hC => World.putObj_heap_other hC) ⟨T2, fn2, dd2, r1, putObj_loop r2⟩
    · exact hX2.trans (Ext.put l _ _ ri hg2 rfl hρ2 World.putObj_size (fun C hC => World.putObj_heap_other hC) rfl rfl rfl)
  cases e2 with
  | normal => exact fin
  | ret => exact fin
  | exit id => exact fin
  | goto t => exact fin
theorem onJ_out {e : AE} {K : Kont} {t : B} {h : H} {ids : List Nat} (x : onJ e (K .normal t h) (mapL (fun id => (id, K (.exit id) t h)) ids) (K .ret t h)) : K e t h := by
  cases e with
  | normal => exact x
  | ret => exact x
  | goto l => exact x.elim
  | exit id =>
    have x' : findJ id (mapL (fun id => (id, K (.exit id) t h)) ids) := x
    clear x
    induction ids with
    | nil => exact x'.elim
    | cons j ids ih =>
      have x2 : Bool.rec (motive := fun _ => Prop) (findJ id (mapL (fun id => (id, K (.exit id) t h)) ids)) (K (.exit j) t h) (Nat.beq id j) := x'
      rw [natBeq_eq] at x2
      by_cases q : id = j
      · subst q; simp only [decide_true] at x2; exact x2
      · simp only [q, decide_false] at x2; exact ih x2
theorem setTmps_sz {n : Nat} : ∀ (ps : List Tmp) (args : List Value) {t : B}, Sz t n → Sz (setTmps t ps args) n := by
  intro ps
  induction ps with
  | nil => intro args t h; exact h
  | cons p ps ih =>
    intro args t h
    cases args with
    | nil => exact h
    | cons v args => exact ih args (h.set p v)
theorem mkL_sz {n : Nat} (ks : List Nat) (s : List Value) : Sz (mkL n ks s) n := by
  have gen : ∀ (ks : List Nat) (i : Nat) (b : B), Sz b n → Sz (setKs s ks i b) n := by
    intro ks
    induction ks with
    | nil => intro i b h; exact h
    | cons k ks ih => intro i b h; exact ih _ _ (h.set k _)
  exact gen ks 0 _ (B.mkU_sz n n (Nat.le_refl _))
theorem firstN_eq (s : List Value) : ∀ (l : List Value) (i : Nat), (∀ j, nthD s (i + j) = nthD l j) → firstN s l.length i = l := by
  intro l
  induction l with
  | nil => intro i _; rfl
  | cons v l ih =>
    intro i h
    show nthD s i :: firstN s l.length (i + 1) = _
    rw [ih (i + 1) fun j => by rw [show i + 1 + j = i + (j + 1) by omega]; exact h (j + 1)]
    rw [show nthD s i = v from h 0]
theorem firstN_self (s : List Value) : firstN s s.length 0 = s := firstN_eq s s 0 fun j => by rw [Nat.zero_add]
/-- the record of a range over a function -/
theorem range_inst {A : Ann} {d key : Nat} {t : B} {fv : Value} {ps : Array Tmp} {as bd : Code} {h : H} {K : AE → H → Prop} (hS : Sz t A.n)
    (ihS : ∀ (top : Bool) (c : Code) (key : Nat) (t : B) (h : H) (K : Kont), wpC P E A d top c key t h K → WpS P top A.n c t h K)
    (ihL : ∀ (top : Bool) (c : Code) (key : Nat) (t : B) (h : H) (K : Kont), Sz t A.n → wpC P E A d top c key t h K → ∃ e t h, Sz t A.n ∧ K e t h)
    (hh : rangeS P fv ps.toList.length (fun args h bz KR => wpC P E A d false as key (setTmps t ps.toList (firstN args (len ps.toList) 0)) h (seqKt (fun t h => bz h fun h => wpC P E A d false bd key t h (fun e _ h => KR e h)) (fun _ _ _ => False))) h K) :
    ∃ g first captured Q, fv = .func (.func g) ⟨first⟩ ⟨captured⟩ ∧ CallW P g (app (app first [.func (.yield h.next) ⟨[]⟩ ⟨[]⟩]) captured) (h.new (.loop .ready none 0 t ps.toList as bd 0)) Q ∧
      ∀ v h', Q v h' → ∃ e s, h'.get h.next = some (.loop s (jmp e) 0 t ps.toList as bd 0) ∧ s ≠ .busy ∧ K e (h'.del h.next) := by
  refine hh.w (fun s p => .loop s p 0 t ps.toList as bd 0) (fun s p => rfl) (fun h l s p e => ⟨s, p, 0, t, ps.toList, as, bd, 0, e, rfl⟩) ?_
  intro l args h pd Q hg hlen hRB
  rw [len_eq, ← hlen, firstN_self] at hRB
  have live : ∃ v h', Q v h' := by
    obtain ⟨e, t1, h1, hS1, x⟩ := ihL _ _ _ _ _ _ (setTmps_sz _ _ hS) hRB
    cases e with
    | normal =>
      obtain ⟨pd1, _, x⟩ := (show ∃ pd, h1.get l = some (.loop .ready pd 0 t ps.toList as bd 0) ∧ wpC P E A d false bd key t1 (h1.put l (.loop .busy pd 0 t ps.toList as bd 0)) _ from x)
      obtain ⟨e2, t2, h2, _, _, q⟩ := ihL _ _ _ _ _ _ hS1 x
      exact ⟨_, _, q⟩
    | ret => exact x.elim
    | exit id => exact x.elim
    | goto id => exact x.elim
  refine round_soundC (KA := seqKt (fun t1 h1 => ∃ pd, h1.get l = some (.loop .ready pd 0 t ps.toList as bd 0) ∧ wpC P E A d false bd key t1 (h1.put l (.loop .busy pd 0 t ps.toList as bd 0)) fun e _ h2 => (∃ s2 pd2, h2.get l = some (.loop s2 pd2 0 t ps.toList as bd 0)) ∧ Q (.bool (jv e)) (h2.put l (.loop (jst e) (jmp e) 0 t ps.toList as bd 0))) (fun _ _ _ => False)) hS hg (ihS _ _ _ _ _ _ hRB) ?_ live
  intro e t1 h1 x
  cases e with
  | normal =>
    obtain ⟨pd1, hg1, x⟩ := (show ∃ pd, h1.get l = some (.loop .ready pd 0 t ps.toList as bd 0) ∧ wpC P E A d false bd key t1 (h1.put l (.loop .busy pd 0 t ps.toList as bd 0)) _ from x)
    exact ⟨rfl, pd1, hg1, ihS _ _ _ _ _ _ x⟩
  | ret => exact x.elim
  | exit id => exact x.elim
  | goto id => exact x.elim
theorem wpC_sound_step (hE : EnvOk P E) (A : Ann) (d : Nat)
    (ihS : ∀ (top : Bool) (c : Code) (key : Nat) (t : B) (h : H) (K : Kont), wpC P E A d top c key t h K → WpS P top A.n c t h K)
    (ihL : ∀ (top : Bool) (c : Code) (key : Nat) (t : B) (h : H) (K : Kont), Sz t A.n → wpC P E A d top c key t h K → ∃ e t h, Sz t A.n ∧ K e t h) :
    ∀ (top : Bool) (c : Code) (key : Nat) (t : B) (h : H) (K : Kont), wpC P E A (d + 1) top c key t h K → WpS P top A.n c t h K := by
  intro top c key t h K hh
  cases c with
  | skip => exact flat_soundC .normal (fun rr Q a w q => wpIn_skip q) (fun b q => by cases q) hh
  | region id ops draw => exact (region_soundC hE (show regionC P E ops draw t h _ from hh)).mono fun e t h q => by obtain ⟨rfl, q⟩ := onAE_normal q; exact q
  | seq a b =>
    refine seq_soundC (ihS top a key t h _ hh) (fun t h q => ihS top b key t h K q) fun e t h hne q => ?_
    cases e with
    | normal => exact absurd rfl hne
    | exit _ => exact q
    | goto _ => exact q
    | ret => exact q
  | cond c a b =>
    have hh' : condP (ev t c) (wpC P E A d top a key t h K) (wpC P E A d top b key t h K) := hh
    cases hh' with
    | yes e x => exact cond_soundC true e (ihS _ _ _ _ _ _ x)
    | no e x => exact cond_soundC false e (ihS _ _ _ _ _ _ x)
  | block id b => exact block_soundC (ihS top b id t h _ hh)
  | loop b =>
    have hh' : LoopG (fun I s h => wpC P E A d top b key (mkL A.n (annOf A.loops key).1 s) h (loopKt (annOf A.loops key).1 (annOf A.loops key).2 I fun e s h => K e (mkL A.n (annOf A.loops key).2 s) h)) (getKs t (annOf A.loops key).1) h := hh
    refine (hh'.w (fun s h => WpS P top A.n (.loop b) (mkL A.n (annOf A.loops key).1 s) h K) ?_).le fun ρ T hs hT => mkL_le _ hT hs
    intro s h J hJ hG
    refine loop_soundC (K1 := fun e t h => onAE e (WpS P top A.n (.loop b) t h K) (fun id => K (.exit id) t h) (fun l => K (.goto l) t h) (K .ret t h)) ((ihS _ _ _ _ _ _ hG).monoLe ?_) (fun t h q => q) (fun e t h hne q => ?_)
    · intro e t h q
      cases e with
      | normal => exact ⟨_, hJ _ _ q, fun ρ T hs hT => mkL_le _ hT hs⟩
      | exit _ => exact ⟨_, q, fun ρ T hs hT => mkL_le _ hT hs⟩
      | goto _ => exact ⟨_, q, fun ρ T hs hT => mkL_le _ hT hs⟩
      | ret => exact ⟨_, q, fun ρ T hs hT => mkL_le _ hT hs⟩
    · cases e with
      | normal => exact absurd rfl hne
      | exit _ => exact q
      | goto _ => exact q
      | ret => exact q
  | rangeFunc f ps as bd =>
    cases top with
    | false => exact hh.elim
    | true =>
      have hh0 : rangeS P (ev t f) ps.toList.length
        (fun args h bz KR => wpC P E A d false as key (setTmps t ps.toList (firstN args (len ps.toList) 0)) h (seqKt (fun t h => bz h fun h => wpC P E A d false bd key t h (fun e _ h => KR e h)) (fun _ _ _ => False))) h
        (fun e h => onJ e (K .normal t h) (mapL (fun id => (id, K (.exit id) t h)) (exitIds bd)) (K .ret t h)) := hh
      intro rr base ρ a W hR hb hT hH hs hM
      obtain rfl : rr = none := hR rfl
      have hS : Sz t A.n := by rw [← hs]; exact hT.1
      obtain ⟨g, first, captured, Q, hfv, hcw, hQ⟩ := range_inst hS ihS ihL hh0
      obtain ⟨⟨fd, body, hfd, hbody⟩, _, hcc⟩ := hcw
      refine (range_core hE (st := ⟨t, [], h⟩) (ps := ps) (as := as) (bd := bd) hfv hfd hbody (Qc := Q) (K := fun e h => K e t h) ?_ ?_ hb hT hH hM).mono ?_
      · intro ρ ARGS W hA hH
        exact hcc ρ ARGS W hA hH
      · intro v h' hq
        obtain ⟨e, s, h1, h2, h3⟩ := hQ v h' hq
        refine ⟨e, s, 0, t, ps.toList, as, bd, 0, ?_, h2, onJ_out h3⟩
        have : jmp e = jumpOf e := by cases e <;> rfl
        rw [← this]; exact h1
      · rintro e' a' W' ⟨e, h', hk, rfl, ht, ρ', k1, k2, k3, k4⟩
        exact ⟨e, t, h', hk, rfl, by rw [ht]; exact hs, ρ', by rw [ht]; exact hT.mono k1, k2, k3, k4⟩
  | exit id => exact flat_soundC (.exit id) (fun rr Q a w q => wpIn_exit q) (fun b q => by cases q) hh
  | scope b =>
    refine scope_enter ?_
    have hh0 : List.casesOn (motive := fun _ => Prop) (annOf A.scopes key).1 (wpC P E A d top b key t h (jumps (wpC P E A d top) b key K 2)) (fun l ks => Option.rec (motive := fun _ => Prop) False (fun rest =>
      wpC P E A d top b key t h (scopeL b l ks (LoopG fun I s h => wpC P E A d top rest key (mkL A.n ks s) h (scopeL b l ks I fun e t h => K e (mkL A.n (annOf A.scopes key).2 (getKs t (annOf A.scopes key).2)) h)) K)) (findLabel b l)) := hh
    revert hh0
    generalize (annOf A.scopes key).2 = out
    cases (annOf A.scopes key).1 with
    | cons l ks =>
      intro hh0
      cases hfl : findLabel b l with
      | none =>
        have hh1 : Option.rec (motive := fun _ => Prop) False (fun rest =>
          wpC P E A d top b key t h (scopeL b l ks (LoopG fun I s h => wpC P E A d top rest key (mkL A.n ks s) h (scopeL b l ks I fun e t h => K e (mkL A.n out (getKs t out)) h)) K)) (findLabel b l) := hh0
        rw [hfl] at hh1; exact hh1.elim
      | some rest =>
        have hh1 : Option.rec (motive := fun _ => Prop) False (fun rest =>
          wpC P E A d top b key t h (scopeL b l ks (LoopG fun I s h => wpC P E A d top rest key (mkL A.n ks s) h (scopeL b l ks I fun e t h => K e (mkL A.n out (getKs t out)) h)) K)) (findLabel b l) := hh0
        rw [hfl] at hh1
        have hh2 : wpC P E A d top b key t h (scopeL b l ks (LoopG fun I s h => wpC P E A d top rest key (mkL A.n ks s) h (scopeL b l ks I fun e t h => K e (mkL A.n out (getKs t out)) h)) K) := hh1
        have key3 : ∀ s h, LoopG (fun I s h => wpC P E A d top rest key (mkL A.n ks s) h (scopeL b l ks I fun e t h => K e (mkL A.n out (getKs t out)) h)) s h → WpSc P top A.n b rest (mkL A.n ks s) h K := by
          intro s h hL
          refine hL.w (fun s h => WpSc P top A.n b rest (mkL A.n ks s) h K) ?_
          intro s h J hJ hG
          refine scope_soundC (K1 := fun e t h => onAE e (K .normal t h) (fun id => K (.exit id) t h) (fun l => (findLabel b l = none ∧ K (.goto l) t h) ∨ ∃ rest, findLabel b l = some rest ∧ WpSc P top A.n b rest t h K) (K .ret t h)) ((ihS _ _ _ _ _ _ hG).monoLe ?_) (fun l t h q => q) (fun e t h hne q => ?_)
          · intro e t h q
            cases e with
            | normal => exact ⟨_, q, fun ρ T hs hT => mkL_le _ hT hs⟩
            | exit _ => exact ⟨_, q, fun ρ T hs hT => mkL_le _ hT hs⟩
            | ret => exact ⟨_, q, fun ρ T hs hT => mkL_le _ hT hs⟩
            | goto l' =>
              have q' : Bool.rec (motive := fun _ => Prop) (Option.rec (motive := fun _ => Prop) (K (.goto l') (mkL A.n out (getKs t out)) h) (fun _ => False) (findLabel b l')) (J (getKs t ks) h) (Nat.beq l' l) := q
              rw [natBeq_eq] at q'
              by_cases e : l' = l
              · subst e
                simp only [decide_true] at q'
                exact ⟨_, .inr ⟨rest, hfl, hJ _ _ q'⟩, fun ρ T hs hT => mkL_le _ hT hs⟩
              · simp only [e, decide_false] at q'
                cases hf2 : findLabel b l' with
                | none => rw [hf2] at q'; exact ⟨_, .inl ⟨hf2, q'⟩, fun ρ T hs hT => mkL_le _ hT hs⟩
                | some r2 => rw [hf2] at q'; exact q'.elim
          · cases e with
            | normal => exact q
            | exit _ => exact q
            | goto l => exact absurd rfl (hne l)
            | ret => exact q
        refine scope_soundC (ihS _ _ _ _ _ _ hh2) (fun l' t h q => ?_) (fun e t h hne q => ?_)
        · have q' : Bool.rec (motive := fun _ => Prop) (Option.rec (motive := fun _ => Prop) (K (.goto l') t h) (fun _ => False) (findLabel b l')) (LoopG (fun I s h => wpC P E A d top rest key (mkL A.n ks s) h (scopeL b l ks I fun e t h => K e (mkL A.n out (getKs t out)) h)) (getKs t ks) h) (Nat.beq l' l) := q
          rw [natBeq_eq] at q'
          by_cases e : l' = l
          · subst e
            simp only [decide_true] at q'
            have w := key3 _ _ q'
            exact .inr ⟨rest, hfl, fun rr base ρ a W hR hb hT hH hs hM => w rr base ρ a W hR hb (mkL_le _ hT hs) hH hs hM⟩
          · simp only [e, decide_false] at q'
            cases hf2 : findLabel b l' with
            | none => rw [hf2] at q'; exact .inl ⟨rfl, q'⟩
            | some r2 => rw [hf2] at q'; exact q'.elim
        · cases e with
          | normal => exact q
          | exit _ => exact q
          | goto l => exact absurd rfl (hne l)
          | ret => exact q
    | nil =>
    intro hh
    have key2 : ∀ (j : Nat) (c : Code) (t : B) (h : H), wpC P E A d top c key t h (jumps (wpC P E A d top) b key K j) → WpSc P top A.n b c t h K := by
      intro j
      induction j with
      | zero =>
        intro c t h hh
        refine scope_soundC (ihS _ _ _ _ _ _ hh) (fun l t h q => ?_) (fun e t h hne q => ?_)
        · have q' : Option.rec (motive := fun _ => Prop) (K (.goto l) t h) (fun rest => False) (findLabel b l) := q
          cases hf : findLabel b l with
          | none => rw [hf] at q'; exact .inl ⟨rfl, q'⟩
          | some r2 => rw [hf] at q'; exact q'.elim
        · cases e with
          | normal => exact q
          | exit _ => exact q
          | goto l => exact absurd rfl (hne l)
          | ret => exact q
      | succ j ihj =>
        intro c t h hh
        refine scope_soundC (ihS _ _ _ _ _ _ hh) (fun l t h q => ?_) (fun e t h hne q => ?_)
        · have q' : Option.rec (motive := fun _ => Prop) (K (.goto l) t h) (fun rest => wpC P E A d top rest key t h (jumps (wpC P E A d top) b key K j)) (findLabel b l) := q
          cases hf : findLabel b l with
          | none => rw [hf] at q'; exact .inl ⟨rfl, q'⟩
          | some r2 => rw [hf] at q'; exact .inr ⟨r2, rfl, ihj _ _ _ q'⟩
        · cases e with
          | normal => exact q
          | exit _ => exact q
          | goto l => exact absurd rfl (hne l)
          | ret => exact q
    exact key2 2 b t h hh
  | label l => exact flat_soundC .normal (fun rr Q a w q => wpIn_label q) (fun b q => by cases q) hh
  | goto l => exact flat_soundC (.goto l) (fun rr Q a w q => wpIn_goto q) (fun b q => by cases q) hh
  | ret => exact flat_soundC .ret (fun rr Q a w q => wpIn_ret q) (fun b q => by cases q) hh
  | refuse w => exact hh.elim

theorem opsC_live (hE : EnvOk P E) {ops : Array Oper} {K : B → H → Prop} {N : Nat} : ∀ (rest : List Oper) (i : Nat) (sk : List Nat) (t : B) (h : H), Sz t N → opsC P E ops.toList K rest i sk t h → ∃ t h, Sz t N ∧ K t h := by
  intro rest
  induction rest with
  | nil => intro i sk t h hS hh; exact ⟨t, h, hS, hh⟩
  | cons o rest ih =>
    intro i sk t h hS hh
    have hh1 : guardC ops.toList sk t (fun t => opC P E o.op (ev t) h fun v h' => opsC P E ops.toList K rest (Nat.add i 1) sk (putT t o.dst v) h') (fun t => opsC P E ops.toList K rest (Nat.add i 1) (i :: sk) (putT t o.dst undef) h) o.guard := hh
    obtain ⟨b, hg, hgo, hskip⟩ := guardC_sound (o := o) hS hh1
    have hS' : ∀ v, Sz (putT t o.dst v) N := fun v => by cases o.dst with | none => exact hS | some d => exact hS.set d v
    cases b with
    | false => exact ih _ _ _ _ (hS' _) (hskip rfl)
    | true =>
      obtain ⟨v, h', hk⟩ := (opC_soundW hE (hgo rfl)).1
      exact ih _ _ _ _ (hS' _) hk
theorem regionC_live (hE : EnvOk P E) {ops : Array Oper} {draw : Bool} {N : Nat} {t : B} {h : H} {K : B → H → Prop} (hS : Sz t N) (hh : regionC P E ops draw t h K) : ∃ t h, Sz t N ∧ K t h := by
  cases draw with
  | false => exact opsC_live hE ops.toList 0 [] t h hS hh
  | true =>
    obtain ⟨ps, hps, h1⟩ := bindO_iff.1 (show bindO (drawOk E ops.toList) _ from hh)
    obtain ⟨h', al, hl, h2⟩ := layC_sound ops.toList 0 h [] h1
    obtain ⟨mem, ⟨T, hm⟩, h3, _⟩ := drawC_sound hE (N := N) ops.toList 0 [] [] [] t h' hS (fun x hx => by cases hx) h2
    exact ⟨_, _, (h3 T hm).2⟩
theorem wpC_live_step (hE : EnvOk P E) (A : Ann) (d : Nat)
    (ihS : ∀ (top : Bool) (c : Code) (key : Nat) (t : B) (h : H) (K : Kont), wpC P E A d top c key t h K → WpS P top A.n c t h K)
    (ihL : ∀ (top : Bool) (c : Code) (key : Nat) (t : B) (h : H) (K : Kont), Sz t A.n → wpC P E A d top c key t h K → ∃ e t h, Sz t A.n ∧ K e t h) :
    ∀ (top : Bool) (c : Code) (key : Nat) (t : B) (h : H) (K : Kont), Sz t A.n → wpC P E A (d + 1) top c key t h K → ∃ e t h, Sz t A.n ∧ K e t h := by
  intro top c key t h K hS hh
  have jl : ∀ (b : Code) (j : Nat) (c : Code) (t : B) (h : H), Sz t A.n → wpC P E A d top c key t h (jumps (wpC P E A d top) b key K j) → ∃ e t h, Sz t A.n ∧ K e t h := by
    intro b j
    induction j with
    | zero =>
      intro c t h hS hh
      obtain ⟨e, t1, h1, hS1, x⟩ := ihL _ _ _ _ _ _ hS hh
      cases e with
      | normal => exact ⟨_, _, _, hS1, x⟩
      | exit id => exact ⟨_, _, _, hS1, x⟩
      | ret => exact ⟨_, _, _, hS1, x⟩
      | goto l =>
        have q' : Option.rec (motive := fun _ => Prop) (K (.goto l) t1 h1) (fun rest => False) (findLabel b l) := x
        cases hf : findLabel b l with
        | none => rw [hf] at q'; exact ⟨_, _, _, hS1, q'⟩
        | some r2 => rw [hf] at q'; exact q'.elim
    | succ j ihj =>
      intro c t h hS hh
      obtain ⟨e, t1, h1, hS1, x⟩ := ihL _ _ _ _ _ _ hS hh
      cases e with
      | normal => exact ⟨_, _, _, hS1, x⟩
      | exit id => exact ⟨_, _, _, hS1, x⟩
      | ret => exact ⟨_, _, _, hS1, x⟩
      | goto l =>
        have q' : Option.rec (motive := fun _ => Prop) (K (.goto l) t1 h1) (fun rest => wpC P E A d top rest key t1 h1 (jumps (wpC P E A d top) b key K j)) (findLabel b l) := x
        cases hf : findLabel b l with
        | none => rw [hf] at q'; exact ⟨_, _, _, hS1, q'⟩
        | some r2 => rw [hf] at q'; exact ihj _ _ _ hS1 q'
  cases c with
  | skip => exact ⟨_, _, _, hS, hh⟩
  | region id ops draw =>
    obtain ⟨t1, h1, k⟩ := regionC_live hE hS (show regionC P E ops draw t h _ from hh)
    exact ⟨_, t1, h1, k⟩
  | seq a b =>
    obtain ⟨e, t1, h1, hS1, x⟩ := ihL _ _ _ _ _ _ hS hh
    cases e with
    | normal => exact ihL _ _ _ _ _ _ hS1 x
    | exit _ => exact ⟨_, _, _, hS1, x⟩
    | goto _ => exact ⟨_, _, _, hS1, x⟩
    | ret => exact ⟨_, _, _, hS1, x⟩
  | cond c a b =>
    have hh' : condP (ev t c) (wpC P E A d top a key t h K) (wpC P E A d top b key t h K) := hh
    cases hh' with
    | yes e x => exact ihL _ _ _ _ _ _ hS x
    | no e x => exact ihL _ _ _ _ _ _ hS x
  | block id b =>
    obtain ⟨e, t1, h1, hS1, x⟩ := ihL _ _ _ _ _ _ hS hh
    cases e with
    | normal => exact ⟨_, _, _, hS1, x⟩
    | goto _ => exact ⟨_, _, _, hS1, x⟩
    | ret => exact ⟨_, _, _, hS1, x⟩
    | exit k =>
      have x' : Bool.rec (motive := fun _ => Prop) (K (.exit k) t1 h1) (K .normal t1 h1) (Nat.beq k id) := x
      cases q : Nat.beq k id with
      | true => rw [q] at x'; exact ⟨_, _, _, hS1, x'⟩
      | false => rw [q] at x'; exact ⟨_, _, _, hS1, x'⟩
  | loop b =>
    have hh' : LoopG (fun I s h => wpC P E A d top b key (mkL A.n (annOf A.loops key).1 s) h (loopKt (annOf A.loops key).1 (annOf A.loops key).2 I fun e s h => K e (mkL A.n (annOf A.loops key).2 s) h)) (getKs t (annOf A.loops key).1) h := hh
    refine hh'.w (fun _ _ => ∃ e t h, Sz t A.n ∧ K e t h) ?_
    intro s h J hJ hG
    obtain ⟨e, t1, h1, hS1, x⟩ := ihL _ _ _ _ _ _ (mkL_sz _ _) hG
    cases e with
    | normal => exact hJ _ _ x
    | exit _ => exact ⟨_, _, _, mkL_sz _ _, x⟩
    | goto _ => exact ⟨_, _, _, mkL_sz _ _, x⟩
    | ret => exact ⟨_, _, _, mkL_sz _ _, x⟩
  | rangeFunc f ps as bd =>
    cases top with
    | false => exact hh.elim
    | true =>
      have hh0 : rangeS P (ev t f) ps.toList.length
        (fun args h bz KR => wpC P E A d false as key (setTmps t ps.toList (firstN args (len ps.toList) 0)) h (seqKt (fun t h => bz h fun h => wpC P E A d false bd key t h (fun e _ h => KR e h)) (fun _ _ _ => False))) h
        (fun e h => onJ e (K .normal t h) (mapL (fun id => (id, K (.exit id) t h)) (exitIds bd)) (K .ret t h)) := hh
      obtain ⟨g, first, captured, Q, hfv, hcw, hQ⟩ := range_inst hS ihS ihL hh0
      obtain ⟨v, h', q⟩ := hcw.2.1
      obtain ⟨e, s, _, _, x⟩ := hQ _ _ q
      exact ⟨_, _, _, hS, onJ_out x⟩
  | exit id => exact ⟨_, _, _, hS, hh⟩
  | scope b =>
    have hh0 : List.casesOn (motive := fun _ => Prop) (annOf A.scopes key).1 (wpC P E A d top b key t h (jumps (wpC P E A d top) b key K 2)) (fun l ks => Option.rec (motive := fun _ => Prop) False (fun rest =>
      wpC P E A d top b key t h (scopeL b l ks (LoopG fun I s h => wpC P E A d top rest key (mkL A.n ks s) h (scopeL b l ks I fun e t h => K e (mkL A.n (annOf A.scopes key).2 (getKs t (annOf A.scopes key).2)) h)) K)) (findLabel b l)) := hh
    revert hh0
    generalize (annOf A.scopes key).2 = out
    cases (annOf A.scopes key).1 with
    | nil => intro hh0; exact jl b 2 b t h hS hh0
    | cons l ks =>
      intro hh0
      cases hfl : findLabel b l with
      | none =>
        have hh1 : Option.rec (motive := fun _ => Prop) False (fun rest =>
          wpC P E A d top b key t h (scopeL b l ks (LoopG fun I s h => wpC P E A d top rest key (mkL A.n ks s) h (scopeL b l ks I fun e t h => K e (mkL A.n out (getKs t out)) h)) K)) (findLabel b l) := hh0
        rw [hfl] at hh1; exact hh1.elim
      | some rest =>
        have hh1 : Option.rec (motive := fun _ => Prop) False (fun rest =>
          wpC P E A d top b key t h (scopeL b l ks (LoopG fun I s h => wpC P E A d top rest key (mkL A.n ks s) h (scopeL b l ks I fun e t h => K e (mkL A.n out (getKs t out)) h)) K)) (findLabel b l) := hh0
        rw [hfl] at hh1
        have sl : ∀ (e : AE) (t1 : B) (h1 : H) (X : List Value → H → Prop) (K' : Kont) (F : Prop), (∀ s h, X s h → F) → (∀ e t h, Sz t A.n → K' e t h → F) → Sz t1 A.n → scopeL b l ks X K' e t1 h1 → F := by
          intro e t1 h1 X K' F hX hK hS1 x
          cases e with
          | normal => exact hK _ _ _ hS1 x
          | exit _ => exact hK _ _ _ hS1 x
          | ret => exact hK _ _ _ hS1 x
          | goto l' =>
            have x' : Bool.rec (motive := fun _ => Prop) (Option.rec (motive := fun _ => Prop) (K' (.goto l') t1 h1) (fun _ => False) (findLabel b l')) (X (getKs t1 ks) h1) (Nat.beq l' l) := x
            cases q : Nat.beq l' l with
            | true => rw [q] at x'; exact hX _ _ x'
            | false =>
              rw [q] at x'
              have x2 : Option.rec (motive := fun _ => Prop) (K' (.goto l') t1 h1) (fun _ => False) (findLabel b l') := x'
              cases hf2 : findLabel b l' with
              | none => rw [hf2] at x2; exact hK _ _ _ hS1 x2
              | some r2 => rw [hf2] at x2; exact x2.elim
        obtain ⟨e, t1, h1, hS1, x⟩ := ihL _ _ _ _ _ _ hS (show wpC P E A d top b key t h (scopeL b l ks (LoopG fun I s h => wpC P E A d top rest key (mkL A.n ks s) h (scopeL b l ks I fun e t h => K e (mkL A.n out (getKs t out)) h)) K) from hh1)
        refine sl e t1 h1 _ K _ ?_ (fun e t h hS k => ⟨e, t, h, hS, k⟩) hS1 x
        intro s h2 hL
        refine hL.w (fun _ _ => ∃ e t h, Sz t A.n ∧ K e t h) ?_
        intro s h J hJ hG
        obtain ⟨e, t1, h1, hS1, x⟩ := ihL _ _ _ _ _ _ (mkL_sz _ _) hG
        exact sl e t1 h1 J _ _ (fun s h j => hJ s h j) (fun e t h _ k => ⟨e, _, h, mkL_sz _ _, k⟩) hS1 x
  | label l => exact ⟨_, _, _, hS, hh⟩
  | goto l => exact ⟨_, _, _, hS, hh⟩
  | ret => exact ⟨_, _, _, hS, hh⟩
  | refuse w => exact hh.elim
theorem wpC_both (hE : EnvOk P E) (A : Ann) (d : Nat) : (∀ (top : Bool) (c : Code) (key : Nat) (t : B) (h : H) (K : Kont), wpC P E A d top c key t h K → WpS P top A.n c t h K) ∧
    ∀ (top : Bool) (c : Code) (key : Nat) (t : B) (h : H) (K : Kont), Sz t A.n → wpC P E A d top c key t h K → ∃ e t h, Sz t A.n ∧ K e t h := by
  induction d with
  | zero => exact ⟨fun top c key t h K hh => hh.elim, fun top c key t h K _ hh => hh.elim⟩
  | succ d ih => exact ⟨wpC_sound_step hE A d ih.1 ih.2, wpC_live_step hE A d ih.1 ih.2⟩
theorem wpC_sound (hE : EnvOk P E) (A : Ann) (d : Nat) : ∀ (top : Bool) (c : Code) (key : Nat) (t : B) (h : H) (K : Kont), wpC P E A d top c key t h K → WpS P top A.n c t h K := (wpC_both hE A d).1
theorem body_sound (hE : EnvOk P E) {f : FuncId} {fd : Func} (hf : E.funcs.get f = some fd) {A : Ann} {args : List Value} {h : H} {Q : Value → H → Prop} (hn : A.n = args.length + (fd.ntmps - args.length)) (hh : bodyC P E A fd args h Q) : CallW P f args h Q := by
  obtain ⟨body, hbody, hw⟩ := bindO_iff.1 hh
  have hP := hE.funcs f fd hf
  have live : ∃ v h', Q v h' := by
    have hmk := B.mk_sz (args.length + (fd.ntmps + 1)) (args.length + (fd.ntmps - args.length)) (by omega)
    have hS := (setL_get args _ _ 0 0 hmk).1
    rw [← hn] at hS
    have hw' := hw
    rw [len_eq] at hw'
    obtain ⟨e, t, h1, _, k⟩ := (wpC_both hE A 200).2 _ _ _ _ _ _ (by rw [hn]; exact (setL_get args _ _ 0 0 hmk).1) hw'
    cases e with
    | normal => obtain ⟨vs, _, q⟩ := bindO_iff.1 (show bindO _ _ from k); exact ⟨_, _, q⟩
    | ret => obtain ⟨vs, _, q⟩ := bindO_iff.1 (show bindO _ _ from k); exact ⟨_, _, q⟩
    | exit _ => exact k.elim
    | goto _ => exact k.elim
  refine ⟨⟨fd, body, hP, hbody⟩, live, fun ρ ARGS W hA hH => ?_⟩
  refine (callsIn_wide (n := 0)).1 (callsIn_of_wp_marks hP hbody trivial ?_)
  have hT := args_rel hA fd.ntmps
  have hl := hA.length
  have := entry_wp (wpC_sound hE A 200 true body 0 _ h _ hw none W.heap.size ρ { tmps := ARGS.toArray ++ Array.replicate (fd.ntmps - ARGS.toArray.size) Go.undef, defers := [] } W (fun _ => rfl) (Nat.le_refl _) hT hH (by simp [hn, hl]) (Marks.nil _ _ _ _))
  refine Go.Code.wpIn_mono ?_ this
  rintro e a1 W1 ⟨e', t', h', k, rfl, hs, ρ1, k1, k2, k3, Bs, hD, hnd, hB⟩
  have fin : bindO (resVals E ⟨t', [], h'⟩ fd.results.toList) (fun vs => Q (tupleOf vs) h') → LeavesInM Fence.wide 0 P fd a1.tmps (fun e W' => ∃ v h', Q v h' ∧ CallPost ρ h W v h' e W') a1.defers .returning W1 := by
    intro hq
    obtain ⟨vs, hvs, q⟩ := bindO_iff.1 hq
    rw [hD]
    refine leaves_marks Bs W1 hnd hB k2 fun W' q1 q2 q3 q4 q5 q6 => ?_
    obtain ⟨V, hV, hrel⟩ := results_sound hE (st := ⟨t', [], h'⟩) k1 q1 fd vs hvs
    refine ⟨V, hV, tupleOf vs, h', q, ρ1, hrel, q1, k3.le, by rw [q2]; exact k3.size, q3.trans k3.os, q4.trans k3.tape, q5.trans k3.output, ?_, k3.own, k3.next, k3.old⟩
    intro C hC hn
    exact (q6 C hC).trans (k3.kept C hC hn)
  cases e' with
  | normal => exact fin k
  | ret => exact fin k
  | exit _ => exact k.elim
  | goto _ => exact k.elim
#print axioms body_sound
end Go.X
