/- A part of the evaluator of the model, and of the proof that what it answers is what a call comes to. No conditions of its own. -/
import Derived.Test.YthbmhdlbphkljaaGreatDoorXd
namespace Go.X
open Go
variable {P : Program} {E : Env}

theorem addr_add (b o i : Nat) : (⟨b, o, none⟩ : Addr).add i = ⟨b, o + i, none⟩ := by
  unfold Addr.add
  split
  · rename_i h; subst h; rfl
  · rfl
theorem cell_of {W : World} {b o : Nat} {C : Array Value} {e : TypeId} {F : Nat × Nat} {V : Value} (h : W.heap[b]? = some (.cells C e F)) (hV : C[o]? = some V) : W.cell? ⟨b, o, none⟩ = some V := by
  simp only [World.cell?, h]
  simpa using hV
theorem run_load {W : World} {a : Addr} {V : Value} (h : W.cell? a = some V) : (load a).run P W = .ok V W := by
  simp only [load, Sem.run, h]
theorem run_loadCellsFrom {W : World} (a : Addr) : ∀ (n i : Nat) (acc : Array Value) (L : List Value), L.length = n → (∀ (j : Nat) (V : Value), L[j]? = some V → W.cell? (a.add (i + j)) = some V) →
    (loadCellsFrom a i n acc).run P W = .ok (acc ++ L.toArray) W := by
  intro n
  induction n with
  | zero => intro i acc L hL _; have : L = [] := List.eq_nil_of_length_eq_zero hL
            subst this; simp [loadCellsFrom, Sem.run_pure]
  | succ n ih =>
    intro i acc L hL h
    cases L with
    | nil => simp at hL
    | cons V L =>
      have h0 := h 0 V rfl
      simp only [Nat.add_zero] at h0
      simp only [loadCellsFrom, Sem.run_bind, run_load h0, Result.andThen_ok]
      rw [ih (i + 1) (acc.push V) L (by simpa using hL) (fun j U e => by have := h (j + 1) U (by simpa using e); rw [show i + 1 + j = i + (j + 1) from by omega]; exact this)]
      simp
theorem run_loadCells {W : World} (a : Addr) (L : List Value) (h : ∀ (j : Nat) (V : Value), L[j]? = some V → W.cell? (a.add j) = some V) : (Go.loadCells a L.length).run P W = .ok L.toArray W := by
  have := run_loadCellsFrom (P := P) a L.length 0 #[] L rfl (fun j V e => by rw [Nat.zero_add]; exact h j V e)
  simpa [Go.loadCells] using this

/-- cells of a row, read -/
theorem HRel.cells {ρ : Rho} {h : H} {W : World} (hH : HRel ρ h W) {b o n : Nat} {r : RI} {cs : List Value} (hr : ρ b = some r) (hl : loadCells h ⟨b, o, none⟩ n = some cs) :
    ∃ L : List Value, L.length = n ∧ VRels ρ cs L ∧ ∀ (j : Nat) (V : Value), L[j]? = some V → W.cell? ⟨r.blk, r.base + o + j, none⟩ = some V := by
  obtain ⟨x, hx, ht⟩ := bind_some hl
  have hobj := hH.obj b _ r (H.row_get hx) hr
  obtain ⟨C, F, h1, h2, h3, h4, h5, h6, h7⟩ := hobj
  obtain ⟨hc, hlen⟩ := takeN_eq _ _ _ ht
  rw [dropN_eq] at hc hlen
  have hlen' : o + n ≤ x.cs.length ∨ n = 0 := by
    rw [List.length_drop] at hlen
    show o + n ≤ _ ∨ _
    have : (⟨b, o, none⟩ : Addr).off = o := rfl
    rw [this] at hlen
    omega
  have hidx : ∀ j, j < n → ∃ v V, cs[j]? = some v ∧ C[r.base + o + j]? = some V ∧ VRel ρ v V := by
    intro j hj
    have hlt : o + j < x.cs.length := by omega
    have e : cs[j]? = some (x.cs[o + j]) := by
      rw [hc, List.getElem?_take, if_pos hj, List.getElem?_drop]
      show x.cs[o + j]? = _
      exact List.getElem?_eq_getElem hlt
    obtain ⟨V, hV, hv⟩ := h6 (o + j) _ (List.getElem?_eq_getElem hlt)
    exact ⟨_, V, e, by rw [Nat.add_assoc]; exact hV, hv⟩
  have hcl : cs.length = n := by
    rw [hc, List.length_take, List.length_drop]
    have : (⟨b, o, none⟩ : Addr).off = o := rfl
    rw [this]; omega
  refine ⟨(C.toList.drop (r.base + o)).take n, ?_, ?_, ?_⟩
  · rw [List.length_take, List.length_drop]
    by_cases hn : n = 0
    · omega
    · obtain ⟨_, V, _, hV, _⟩ := hidx (n - 1) (by omega)
      have hlt : r.base + o + (n - 1) < C.size := by
        rcases Nat.lt_or_ge (r.base + o + (n - 1)) C.size with hh | hh
        · exact hh
        · rw [Array.getElem?_eq_none hh] at hV; cases hV
      rw [Array.length_toList]; omega
  · refine VRels.of_get ?_ ?_
    · rw [hcl, List.length_take, List.length_drop, Array.length_toList]
      by_cases hn : n = 0
      · omega
      · obtain ⟨_, V, _, hV, _⟩ := hidx (n - 1) (by omega)
        have hlt : r.base + o + (n - 1) < C.size := by
          rcases Nat.lt_or_ge (r.base + o + (n - 1)) C.size with hh | hh
          · exact hh
          · rw [Array.getElem?_eq_none hh] at hV; cases hV
        omega
    · intro i v e
      have hi : i < n := by
        rcases Nat.lt_or_ge i cs.length with hh | hh
        · omega
        · rw [List.getElem?_eq_none hh] at e; cases e
      obtain ⟨v', V, e', hV, hv⟩ := hidx i hi
      rw [e] at e'; cases e'
      refine ⟨V, ?_, hv⟩
      rw [List.getElem?_take, if_pos hi, List.getElem?_drop, Array.getElem?_toList]
      exact hV
  · intro j V e
    rw [List.getElem?_take] at e
    split at e
    · rw [List.getElem?_drop, Array.getElem?_toList] at e
      exact cell_of h1 e
    · cases e
theorem HRel.cell {ρ : Rho} {h : H} {W : World} (hH : HRel ρ h W) {b o : Nat} {r : RI} {x : Blk} {v : Value} (hr : ρ b = some r) (hx : h.row b = some x) (hv : x.cs[o]? = some v) :
    ∃ V, W.cell? ⟨r.blk, r.base + o, none⟩ = some V ∧ VRel ρ v V := by
  obtain ⟨C, F, h1, h2, h3, h4, h5, h6, h7⟩ := hH.obj b _ r (H.row_get hx) hr
  obtain ⟨V, hV, hv⟩ := h6 o v hv
  exact ⟨V, cell_of h1 hV, hv⟩

theorem addrOf_some {v : Value} {a : Addr} (h : addrOf v = some a) : ∃ b o, v = .pointer (some ⟨b, o, none⟩) ∧ a = ⟨b, o, none⟩ := by
  unfold addrOf at h
  split at h
  · cases h; exact ⟨_, _, rfl, rfl⟩
  · cases h

/-- a variable, read -/
theorem loadVar_sound (hE : EnvOk P E) {ρ : Rho} {h : H} {W : World} (hH : HRel ρ h W) {t : TypeId} {b o : Nat} {r : RI} {v : Value} (hr : ρ b = some r) (hl : loadVar E h t ⟨b, o, none⟩ = some v) :
    ∃ V, (Go.loadVar t ⟨r.blk, r.base + o, none⟩).run P W = .ok V W ∧ VRel ρ v V := by
  obtain ⟨i, hi, hl⟩ := bind_some hl
  have hs : E.size t = some i.size := by simp only [Env.size]; rw [show E.types.get t = some i from hi]; rfl
  cases ha : i.agg with
  | false =>
    rw [ha] at hl
    obtain ⟨x, hx, hv⟩ := bind_some hl
    rw [nth_eq] at hv
    obtain ⟨V, h1, h2⟩ := hH.cell hr hx hv
    refine ⟨V, ?_, h2⟩
    simp only [Go.loadVar, Sem.run_bind, hE.isAgg hi, ha, Result.andThen_ok]
    exact run_load h1
  | true =>
    rw [ha] at hl
    obtain ⟨cs, hc, hv⟩ := bind_some hl
    cases hv
    obtain ⟨L, hL, hrel, hcell⟩ := hH.cells hr hc
    refine ⟨.agg L.toArray, ?_, .agg _ _ (by simpa using hrel)⟩
    simp only [Go.loadVar, Sem.run_bind, hE.isAgg hi, ha, Result.andThen_ok, if_true, hE.size hs]
    rw [← hL, run_loadCells _ L (fun j V e => by rw [addr_add]; exact hcell j V e)]
    simp [Sem.run_pure]

/-- the heap behind a store into one row -/
def Stored (W W' : World) (B : Nat) (C C' : Array Value) (e : TypeId) (F : Nat × Nat) : Prop :=
  W.heap[B]? = some (.cells C e F) ∧ W'.heap[B]? = some (.cells C' e F) ∧ W'.heap.size = W.heap.size ∧ (∀ k, k ≠ B → W'.heap[k]? = W.heap[k]?) ∧ W'.os = W.os ∧ W'.tape = W.tape ∧ W'.output = W.output

theorem oneCell_run {v : Value} (h : oneCell v = true) : (∀ c, v ≠ .agg c) ∧ (∀ c, v ≠ .tuple c) := by
  constructor <;> (intro c e; subst e; cases h)
theorem VRel.oneCell {ρ : Rho} {v V : Value} (h : VRel ρ v V) (hv : oneCell v = true) : oneCell V = true := by
  cases h <;> first | rfl | cases hv
theorem run_store {W : World} {b o : Nat} {C : Array Value} {e : TypeId} {F : Nat × Nat} {V : Value} (h : W.heap[b]? = some (.cells C e F)) (ho : o < C.size) (hf : ¬ (F.1 ≤ o ∧ o < F.2)) (hV : oneCell V = true) :
    ∃ W', (store ⟨b, o, none⟩ V).run P W = .ok () W' ∧ Stored W W' b C (C.setIfInBounds o V) e F := by
  have hc : W.cell? ⟨b, o, none⟩ = some C[o] := cell_of h (by simp [ho])
  have hfz : W.frozen? ⟨b, o, none⟩ = false := by
    simp only [World.frozen?, h]
    cases hh : (decide (F.1 ≤ o) && decide (o < F.2)) with
    | false => rfl
    | true => simp at hh; exact absurd hh hf
  refine ⟨W.setCell ⟨b, o, none⟩ V, ?_, h, ?_, ?_, ?_, rfl, rfl, rfl⟩
  · have hr : (Sem.store Mode.plain ⟨b, o, none⟩ V (Sem.pure ())).run P W = .ok () (W.setCell ⟨b, o, none⟩ V) := by
      obtain ⟨h1, h2⟩ := oneCell_run hV
      cases V <;> first | (simp only [Sem.run, hc, hfz]; rfl) | exact absurd rfl (h1 _) | exact absurd rfl (h2 _)
    exact hr
  · simp [World.setCell, Array.getElem?_modify, h]
  · simp [World.setCell]
  · intro k hk
    simp only [World.setCell, Array.getElem?_modify]
    rw [if_neg (fun e => hk e.symm)]
theorem run_storeCells (b : Nat) (e : TypeId) (F : Nat × Nat) (o : Nat) : ∀ (L : List Value) (i : Nat) (W : World) (C : Array Value), W.heap[b]? = some (.cells C e F) → o + i + L.length ≤ C.size →
    (∀ j, o + i ≤ j → j < o + i + L.length → ¬ (F.1 ≤ j ∧ j < F.2)) → (∀ V ∈ L, oneCell V = true) →
    ∃ W' C', (Go.storeCells ⟨b, o, none⟩ L i).run P W = .ok () W' ∧ Stored W W' b C C' e F ∧ C'.size = C.size ∧
      ∀ j, C'[j]? = if o + i ≤ j ∧ j < o + i + L.length then L[j - (o + i)]? else C[j]? := by
  intro L
  induction L with
  | nil =>
    intro i W C h _ _ _
    refine ⟨W, C, ?_, ⟨h, h, rfl, fun _ _ => rfl, rfl, rfl, rfl⟩, rfl, fun j => ?_⟩
    · simp [Go.storeCells, Sem.run_pure]
    · rw [if_neg (by simp)]
  | cons V L ih =>
    intro i W C h hlen hf hV
    simp only [List.length_cons] at hlen
    obtain ⟨W1, hr, hs1, hs2, hs3, hs4, hs5, hs6, hs7⟩ := run_store (P := P) (o := o + i) h (by omega) (hf (o + i) (Nat.le_refl _) (by simp)) (hV V (.head _))
    obtain ⟨W2, C2, hr2, ⟨_, k2, k3, k4, k5, k6, k7⟩, hsz, hidx⟩ := ih (i + 1) W1 _ hs2 (by simp; omega) (fun j h1 h2 => hf j (by omega) (by simp; omega)) (fun U hU => hV U (.tail _ hU))
    refine ⟨W2, C2, ?_, ⟨h, k2, k3.trans hs3, fun k hk => (k4 k hk).trans (hs4 k hk), k5.trans hs5, k6.trans hs6, k7.trans hs7⟩, by simpa using hsz, fun j => ?_⟩
    · simp only [Go.storeCells, Sem.run_bind, addr_add, hr, Result.andThen_ok]
      exact hr2
    · rw [hidx j]
      by_cases hj : j = o + i
      · subst hj
        rw [if_neg (by omega), if_pos (by simp)]
        have : o + i < C.size := by omega
        simp [this]
      · by_cases hj2 : o + (i + 1) ≤ j ∧ j < o + (i + 1) + L.length
        · rw [if_pos hj2, if_pos (by simp; omega)]
          have : j - (o + i) = (j - (o + (i + 1))) + 1 := by omega
          rw [this]; simp
        · rw [if_neg hj2, if_neg (by simp; omega)]
          simp [Ne.symm hj]
end Go.X
