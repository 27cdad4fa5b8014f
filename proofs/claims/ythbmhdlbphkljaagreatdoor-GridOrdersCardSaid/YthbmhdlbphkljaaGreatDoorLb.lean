/- Proved: whatever entries and cells come in, GridEntries and GridOrders answer true, and the arguments read as they did. Conditions: none beyond those that the given statements state themselves. -/
import Derived.Test.YthbmhdlbphkljaaGreatDoorLa
import Derived.Test.YthbmhdlbphkljaaGreatDoorZf
namespace Go.Proofs.YthbmhdlbphkljaaGreatDoor
open Go Go.X
theorem DP_of {g : FuncId} {f c args : List Value} {h : H} {K : Value → H → Prop} (hk : CP g (app (app f args) c) h K) : DP (.func (.func g) ⟨f⟩ ⟨c⟩) args h K := ⟨hk⟩
theorem grid_Find_1_res (e : Ent) (s c r : Int) (p : Nat) (h : H) (hp : h.row p = some ⟨[vInt s, vInt c, vInt r], 24, 0, 0, false⟩) (hl : p < h.next) :
    SoundCall PP n_grid_Find_1 [e.val, .pointer (some ⟨p, 0, none⟩)] h (.v (.bool (decide (e.s = s ∧ e.c = c ∧ e.r = r))) h) := by
  refine CallW.pure (grid_Find_1_ok ?_) (by simp [flat])
  have hne : p ≠ h.next := by omega
  simp [grid_Find_1, Ent.cells, hp, hne]
theorem grid_Find_2_res (e : Ent) (s c r : Int) (p : Nat) (h : H) (hp : h.row p = some ⟨[vInt s, vInt c, vInt r], 24, 0, 0, false⟩) (hl : p < h.next) :
    SoundCall PP n_grid_Find_2 [e.val, .pointer (some ⟨p, 0, none⟩)] h (.v (.bool (!lessC e.s e.c e.r s c r)) h) := by
  refine CallW.pure (grid_Find_2_ok ?_) (by simp [flat])
  have hne : p ≠ h.next := by omega
  simp [grid_Find_2, Ent.cells, hp, hne]
  refine CP_of (grid_Less_res _ _ _ _ _ _ _) ?_
  simp
def idxI (pr : Ent → Bool) (es : List Ent) : Int := match es.findIdx? pr with | some i => i | none => -1
def big : Nat := 10000000000
theorem IndexFunc_res {h : H} {v : Value} {es : List Ent} (R : ReadSl h v es) (hb : es.length ≤ big) {g : FuncId} {cap : Value} {pr : Ent → Bool} (hg : ∀ e ∈ es, SoundCall PP g [e.val, cap] h (.v (.bool (pr e)) h)) :
    SoundCall PP n_slices_IndexFunc__api_Entry_api_Entry_ [v, .func (.func g) ⟨[]⟩ ⟨[cap]⟩] h (.v (vInt (idxI pr es)) h) := by
  refine CallW.pure (slices_IndexFunc__api_Entry_api_Entry__ok ?_) (by simp [flat])
  unfold slices_IndexFunc__api_Entry_api_Entry_
  rw [R.len]
  refine LoopG.ind (fun s h' => h' = h ∧ ∃ i : Nat, s = [v, .func (.func g) ⟨[]⟩ ⟨[cap]⟩, vInt es.length, vInt i] ∧ i ≤ es.length ∧ ∀ j (hj : j < es.length), j < i → pr es[j] = false)
    (fun s _ => match nthD s 3 with | .int _ i => es.length - i.toNat | _ => 0) ?_ ⟨rfl, 0, rfl, Nat.zero_le _, fun j _ hj => by omega⟩
  rintro s h' ⟨rfl, i, rfl, hi, hno⟩
  show slices_IndexFunc__api_Entry_api_Entry__l4 _ _ v (.func (.func g) ⟨[]⟩ ⟨[cap]⟩) (vInt es.length) (vInt i) h'
  unfold slices_IndexFunc__api_Entry_api_Entry__l4
  simp
  by_cases hlt : i < es.length
  · rw [if_pos hlt]
    obtain ⟨b, o, e1, e2, e3⟩ := R.ix hlt
    rw [e1]
    simp [e2]
    refine DP_of (CP_of (hg _ (List.getElem_mem hlt)) ?_)
    have hbb : big = 10000000000 := rfl
    rw [wrap64 (by omega) (by omega)]
    simp
    by_cases hp : pr es[i] = true
    · simp only [hp]
      simp
      unfold idxI
      have : es.findIdx? pr = some i := by
        rw [List.findIdx?_eq_some_iff_getElem]
        exact ⟨hlt, hp, fun j hj => by simp [hno j (by omega) hj]⟩
      rw [this]
    · have hp' : pr es[i] = false := by simpa using hp
      rw [hp']
      simp
      refine ⟨⟨i + 1, by simp, by omega, fun j hj hji => ?_⟩, by omega⟩
      by_cases q : j = i
      · subst q; exact hp'
      · exact hno j hj (by omega)
  · rw [if_neg hlt]
    unfold idxI
    have : es.findIdx? pr = none := by
      rw [List.findIdx?_eq_none_iff]
      intro x hx
      obtain ⟨j, hj, rfl⟩ := List.getElem_of_mem hx
      exact hno j hj (by omega)
    rw [this]
def isAt (s c r : Int) (e : Ent) : Bool := decide (e.s = s ∧ e.c = c ∧ e.r = r)
def notLess (s c r : Int) (e : Ent) : Bool := !lessC e.s e.c e.r s c r
def findE (es : List Ent) (s c r : Int) : Nat × Bool := match es.findIdx? (isAt s c r) with
  | some i => (i, true)
  | none => match es.findIdx? (notLess s c r) with
    | some i => (i, false)
    | none => (es.length, false)
abbrev vFind (x : Nat × Bool) : Value := .tuple ⟨[vInt x.1, .bool x.2]⟩
theorem grid_Find_res {h : H} {v : Value} {es : List Ent} (R : ReadSl h v es) (hb : es.length ≤ big) (s c r : Int) : SoundCall PP n_grid_Find [v, vCell s c r] h (.v (vFind (findE es s c r)) h) := by
  refine CallW.pure (grid_Find_ok ?_) (by simp [flat, flatL])
  unfold grid_Find
  simp
  have R1 := R.fr ((Fr.refl h).newRow 24 [vInt s, vInt c, vInt r] 0)
  have hp : (X.newRow h 24 [vInt s, vInt c, vInt r] 0).row h.next = some ⟨[vInt s, vInt c, vInt r], 24, 0, 0, false⟩ := by simp
  refine CP_of (IndexFunc_res R1 hb (pr := isAt s c r) fun e he => grid_Find_1_res e s c r _ _ hp (by simp)) ?_
  unfold idxI findE
  cases hf : es.findIdx? (isAt s c r) with
  | some i => simp
  | none =>
    simp
    refine CP_of (IndexFunc_res R1 hb (pr := notLess s c r) fun e he => grid_Find_2_res e s c r _ _ hp (by simp)) ?_
    unfold idxI
    cases hf2 : es.findIdx? (notLess s c r) with
    | some i => simp
    | none =>
      simp
      rw [R1.len]
      simp
theorem ref25_Find_res {h : H} {v : Value} {es : List Ent} (R : ReadSl h v es) (hb : es.length ≤ big) (s c r : Int) : SoundCall PP n_ref25_Find [v, vCell s c r] h (.v (vFind (findE es s c r)) h) := by
  have hbb : big = 10000000000 := rfl
  refine CallW.pure (ref25_Find_ok ?_) (by simp [flat, flatL])
  unfold ref25_Find
  simp
  have R1 := R.fr ((Fr.refl h).newRow 24 [vInt s, vInt c, vInt r] 0)
  have hp : (X.newRow h 24 [vInt s, vInt c, vInt r] 0).row h.next = some ⟨[vInt s, vInt c, vInt r], 24, 0, 0, false⟩ := by simp
  have hF : Fr h (X.newRow h 24 [vInt s, vInt c, vInt r] 0) := (Fr.refl h).newRow _ _ _
  generalize X.newRow h 24 [vInt s, vInt c, vInt r] 0 = h1 at *
  generalize h.next = p at *
  refine LoopG.ind (fun z h' => h' = h1 ∧ ∃ i : Nat, z = [v, .pointer (some ⟨p, 0, none⟩), vInt i] ∧ i ≤ es.length ∧ ∀ j (hj : j < es.length), j < i → isAt s c r es[j] = false)
    (fun z _ => match nthD z 2 with | .int _ i => es.length - i.toNat | _ => 0) ?_ ⟨rfl, 0, rfl, Nat.zero_le _, fun j _ hj => by omega⟩
  rintro z h' ⟨rfl, i, rfl, hi, hno⟩
  show ref25_Find_l4 _ _ v (.pointer (some ⟨p, 0, none⟩)) (vInt i) h'
  unfold ref25_Find_l4
  rw [R1.len]
  simp
  by_cases hlt : i < es.length
  · rw [if_pos hlt]
    obtain ⟨b, o, e1, e2, e3⟩ := R1.ix hlt
    rw [e1]
    simp [e3, hp]
    rw [wrap64 (by omega) (by omega)]
    split
    · rename_i q
      have : es.findIdx? (isAt s c r) = some i := by
        rw [List.findIdx?_eq_some_iff_getElem]
        exact ⟨hlt, by simpa [isAt] using q, fun j hj => by simp [hno j (by omega) hj]⟩
      unfold findE
      rw [this]
      exact ⟨⟨rfl, rfl⟩, hF⟩
    · rename_i q
      have q' : isAt s c r es[i] = false := by simpa [isAt] using q
      refine ⟨⟨i + 1, by simp, by omega, fun j hj hji => ?_⟩, by omega⟩
      by_cases q : j = i
      · subst q; exact q'
      · exact hno j hj (by omega)
  · rw [if_neg hlt]
    have hnone : es.findIdx? (isAt s c r) = none := by
      rw [List.findIdx?_eq_none_iff]
      intro x hx
      obtain ⟨j, hj, rfl⟩ := List.getElem_of_mem hx
      exact hno j hj (by omega)
    refine LoopG.ind (fun z h'' => h'' = h' ∧ ∃ i : Nat, z = [v, .pointer (some ⟨p, 0, none⟩), vInt i] ∧ i ≤ es.length ∧ ∀ j (hj : j < es.length), j < i → notLess s c r es[j] = false)
      (fun z _ => match nthD z 2 with | .int _ i => es.length - i.toNat | _ => 0) ?_ ⟨rfl, 0, rfl, Nat.zero_le _, fun j _ hj => by omega⟩
    rintro z h'' ⟨rfl, i, rfl, hi, hno⟩
    show ref25_Find_l25 _ _ v (.pointer (some ⟨p, 0, none⟩)) (vInt i) h''
    unfold ref25_Find_l25
    rw [R1.lenO]
    simp
    by_cases hlt : i < es.length
    · simp only [hlt, if_true]
      obtain ⟨b, o, e1, e2, e3⟩ := R1.ix hlt
      rw [e1]
      simp [e3, hp]
      refine CP_of (ref25_Less_res _ _ _ _ _ _ _) ?_
      unfold ref25_Find_j29
      simp
      rw [wrap64 (by omega) (by omega)]
      split
      · rename_i q
        have q' : notLess s c r es[i] = false := by simp [notLess, q]
        refine ⟨⟨i + 1, by simp, by omega, fun j hj hji => ?_⟩, by omega⟩
        by_cases q : j = i
        · subst q; exact q'
        · exact hno j hj (by omega)
      · rename_i q
        have : es.findIdx? (notLess s c r) = some i := by
          rw [List.findIdx?_eq_some_iff_getElem]
          exact ⟨hlt, by simpa [notLess] using q, fun j hj => by simp [hno j (by omega) hj]⟩
        unfold findE
        rw [hnone, this]
        exact ⟨⟨rfl, rfl⟩, hF⟩
    · simp [hlt]
      unfold ref25_Find_j29
      simp
      have : es.findIdx? (notLess s c r) = none := by
        rw [List.findIdx?_eq_none_iff]
        intro x hx
        obtain ⟨j, hj, rfl⟩ := List.getElem_of_mem hx
        exact hno j hj (by omega)
      unfold findE
      rw [hnone, this]
      have : i = es.length := by omega
      subst this
      exact ⟨⟨rfl, rfl⟩, hF⟩
end Go.Proofs.YthbmhdlbphkljaaGreatDoor
