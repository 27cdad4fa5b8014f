/- Proved: whatever entries and cells come in, GridEntries and GridOrders answer true, and the arguments read as they did. Conditions: none beyond those that the given statements state themselves. -/
import Derived.Test.YthbmhdlbphkljaaGreatDoorLc
namespace Go.Proofs.YthbmhdlbphkljaaGreatDoor
open Go Go.X
theorem bound_some (i d y : Nat) (h : i ≤ y) : X.bound (some (vInt i)) d y = some i := by
  show (bif Nat.ble i y then some i else none) = _
  rw [natBle_eq]; simp [h]
theorem bound_some1 (i d y : Nat) (h : i + 1 ≤ y) : X.bound (some (vInt ((i : Int) + 1))) d y = some (i + 1) := bound_some (i + 1) d y h
theorem sliceV_cl {h : H} {b o n c l hh m : Nat} {lo hi mx : Option Value} (hx : ∃ x, h.row b = some x ∧ x.osz = 0) (hm : X.bound mx c c = some m) (h2 : X.bound hi n m = some hh) (h3 : X.bound lo 0 hh = some l) (hle : hh ≤ m) (hok : hiOk hi mx = true) :
    sliceV EE h 22 (.slice (some ⟨b, o, none⟩) n c) lo hi mx = some (.slice (some (if m = l then ⟨b, o, none⟩ else ⟨b, o + l * 11, none⟩)) (hh - l) (m - l)) := by
  obtain ⟨x, hx, ho⟩ := hx
  unfold sliceV
  rw [un22]
  show sliceS EE h 30 (some ⟨b, o, none⟩) n c lo hi mx = _
  unfold sliceS
  rw [hm, Option.bind_some, h2, Option.bind_some, h3, Option.bind_some, hok, natBle_eq]
  have e1 : (true && decide (hh ≤ m) && (EE.size 30).isSome) = true := by rw [sz30]; simp [hle]
  rw [e1]
  have hmv : moveA EE h 30 (some ⟨b, o, none⟩) c l m = some (some (if m = l then ⟨b, o, none⟩ else ⟨b, o + l * 11, none⟩)) := by
    unfold moveA
    simp only [sz30, Option.bind_some, hx]
    have e0 : (!(Nat.beq x.osz 0) && Nat.beq ((⟨b, o, none⟩ : Addr).off + c * x.osz) (len x.cs) && Nat.beq m c) = false := by rw [ho]; rfl
    rw [e0, natBeq_eq]
    by_cases q : m = l
    · simp [q]
    · simp [q]
  show (moveA EE h 30 (some ⟨b, o, none⟩) c l m).bind _ = _
  rw [hmv]; rfl
/-- v[i:], v[:i] of what is only read -/
theorem slice_lo {h : H} {v : Value} {es : List Ent} (r : ReadSl h v es) {i : Nat} (hi : i ≤ es.length) : ∃ w, sliceV EE h 22 v (some (vInt i)) none none = some w ∧ ReadSl h w (es.drop i) := by
  cases r with
  | nil =>
    have : i = 0 := by simpa using hi
    subst this
    exact ⟨_, by kernel_rfl, .nil⟩
  | «at» b o c _ hr hc =>
    obtain ⟨x, hx, ho, ht⟩ := hr.row
    refine ⟨_, sliceV_cl ⟨x, hx, ho⟩ (m := c) rfl (hh := es.length) rfl (bound_some i 0 _ hi) hc rfl, ?_⟩
    have hl : (es.drop i).length = es.length - i := by simp
    rw [← hl]
    by_cases q : c = i
    · rw [if_pos q]
      have : es.drop i = [] := List.drop_of_length_le (by omega)
      rw [this]
      exact .at b o _ [] ⟨hr.lt, x, hx, ho, by simp [flatE]⟩ (Nat.zero_le _)
    · rw [if_neg q]
      refine .at b (o + i * 11) _ (es.drop i) ⟨hr.lt, x, hx, ho, ?_⟩ (by rw [hl]; omega)
      rw [hl, ← flatE_drop, ← ht, List.drop_take, List.drop_drop]
      congr 1
      · omega
      · congr 1; omega
theorem slice_hi {h : H} {v : Value} {es : List Ent} (r : ReadSl h v es) {i : Nat} (hi : i ≤ es.length) : ∃ w, sliceV EE h 22 v none (some (vInt i)) none = some w ∧ ReadSl h w (es.take i) := by
  cases r with
  | nil =>
    have : i = 0 := by simpa using hi
    subst this
    exact ⟨_, by kernel_rfl, .nil⟩
  | «at» b o c _ hr hc =>
    obtain ⟨x, hx, ho, ht⟩ := hr.row
    refine ⟨_, sliceV_cl ⟨x, hx, ho⟩ (m := c) rfl (hh := i) (bound_some i _ _ (by omega)) (l := 0) rfl (by omega) rfl, ?_⟩
    have hl : (es.take i).length = i := by simp; omega
    have e : (if c = 0 then (⟨b, o, none⟩ : Addr) else ⟨b, o + 0 * 11, none⟩) = ⟨b, o, none⟩ := by split <;> simp
    rw [e]
    have := ReadSl.at (h := h) b o c (es.take i) ⟨hr.lt, x, hx, ho, by rw [hl, ← flatE_take, ← ht, List.take_take]; congr 1; omega⟩ (by omega)
    rw [hl] at this
    simpa using this
theorem slices_Clone_res {h0 h : H} {v : Value} {es : List Ent} (hf : Fr h0 h) (r : ReadSl h v es) (hb : es.length ≤ big) : CP n_slices_Clone__api_Entry_api_Entry_ [v] h (fun w h' => Fr h0 h' ∧ Fr h h' ∧ OwnSl h0 h' w es) := by
  refine .call (slices_Clone__api_Entry_api_Entry__ok ?_)
  unfold slices_Clone__api_Entry_api_Entry_
  cases r with
  | nil =>
    rw [eqNil_none]
    simp
    exact ⟨hf, .nil⟩
  | «at» b o c _ hr hc =>
    rw [eqNil_some]
    simp
    unfold bldS
    rw [bld0]
    simp
    have f1 := (Fr.refl h).newRow 30 [] 0
    have R := (ReadSl.at b o c _ hr hc).fr f1
    have O : OwnSl h (X.newRow h 30 [] 0) (.slice (some ⟨h.next, 0, none⟩) 0 0) [] := .at h.next 0 [] (Nat.le_refl _) (by simp) (by rw [row_newRow, if_pos rfl]; rfl) (Nat.le_refl _)
    refine app_own f1 O R (Nat.zero_le _) hb ?_
    intro v' h' f2 o2
    refine ⟨hf.trans f2, f2, ?_⟩
    have o3 : OwnSl h h' v' es := by simpa using o2
    cases o3 with
    | nil => exact .nil
    | «at» b n L k0 k1 k2 k3 => exact .at b n L (Nat.le_trans hf.next k0) k1 k2 k3
theorem OwnSl.up {h0 h1 h : H} {v : Value} {es : List Ent} (o : OwnSl h1 h v es) (f : Fr h0 h1) : OwnSl h0 h v es := by
  cases o with
  | nil => exact .nil
  | «at» b n L k0 k1 k2 k3 => exact .at b n L (Nat.le_trans f.next k0) k1 k2 k3
theorem clear_one {h : H} {b : Nat} {L : List Ent} (hr : h.row b = some ⟨flatE L, 30, 0, 0, false⟩) {j c : Nat} (hj : j < L.length) {K : Value → H → Prop} (hK : K undef (h.put b (.row ⟨flatE (setE L j [z0]), 30, 0, 0, false⟩))) : clearP EE h [22] (.slice (some ⟨b, j * 11, none⟩) 1 c) K := by
  unfold clearP
  show bindO (some 22) _
  rw [bindO_some, un22, bindO_some]
  show (bif Nat.beq 1 0 then K undef h else bindO (EE.zcells 30) fun z => bindO (X.storeCells h ⟨b, j * 11, none⟩ (zeros z 1)) fun h' => K undef h')
  rw [show Nat.beq 1 0 = false from rfl, cond_false, zc30, bindO_some]
  have hz : zeros [.int .i64 0, .int .i64 0, .int .i64 0, .string ⟨⟨[]⟩⟩, .int .i64 0, .bool false, .string ⟨⟨[]⟩⟩, .string ⟨⟨[]⟩⟩, .string ⟨⟨[]⟩⟩, .bool false, .int .i64 0] 1 = flatE [z0] := zeros_flat 1
  rw [hz, store_flat hr j [z0] (by simp; omega), bindO_some]
  exact hK
theorem setE_take0 (L : List Ent) (n : Nat) (fs : List Ent) (hn : n ≤ L.length) : (setE L n fs).take n = L.take n := by
  unfold setE
  rw [List.append_assoc, List.take_append_of_le_length (by simp; omega), List.take_take]; congr 1; omega
/-- the entries without the i-th -/
def delE (es : List Ent) (i : Nat) : List Ent := es.take i ++ es.drop (i + 1)
theorem slices_Delete_res {h0 h : H} {v : Value} {es : List Ent} (hf : Fr h0 h) (o : OwnSl h0 h v es) (hb : es.length ≤ big) {i : Nat} (hi : i < es.length) :
    CP n_slices_Delete__api_Entry_api_Entry_ [v, vInt i, vInt (i + 1)] h (fun w h' => Fr h0 h' ∧ OwnSl h0 h' w (delE es i)) := by
  have hbb : big = 10000000000 := rfl
  refine .call (slices_Delete__api_Entry_api_Entry__ok ?_)
  unfold slices_Delete__api_Entry_api_Entry_
  cases o with
  | nil => cases hi
  | «at» b n L k0 k1 k2 k3 =>
    have hn : (L.take n).length = n := by simp; omega
    rw [hn] at hi
    have hx : ∃ x, h.row b = some x ∧ x.osz = 0 := ⟨_, k2, rfl⟩
    rw [blt_len_slice un22]
    rw [sliceV_cl hx (bound_some n _ _ k3) (bound_some1 i _ _ (by omega)) (bound_some i _ _ (by omega)) (by omega) rfl]
    simp
    rw [if_neg (by omega), blt_len_slice un22]
    rw [sliceV_cl hx (m := L.length) (mx := none) rfl (bound_some i _ _ (by omega)) (lo := none) (l := 0) rfl (by omega) rfl]
    rw [sliceV_cl hx (m := L.length) (mx := none) (hi := none) rfl (hh := n) rfl (bound_some1 i _ _ (by omega)) k3 rfl]
    simp
    have R : ReadSl h (.slice (some (if L.length = i + 1 then ⟨b, 0, none⟩ else ⟨b, (i + 1) * 11, none⟩)) (n - (i + 1)) (L.length - (i + 1))) ((L.take n).drop (i + 1)) := by
      by_cases q : L.length = i + 1
      · rw [if_pos q]
        have e : (L.take n).drop (i + 1) = [] := List.drop_of_length_le (by omega)
        rw [e, show n - (i + 1) = 0 by omega]
        exact read_row k1 k2 0 0 _ (by omega) (Nat.zero_le _)
      · rw [if_neg q, List.drop_take]
        exact read_row k1 k2 (i + 1) (n - (i + 1)) _ (by omega) (by omega)
    have hfl : ((L.take n).drop (i + 1)).length = n - (i + 1) := by simp; omega
    generalize hfs : (L.take n).drop (i + 1) = fs at *
    refine app_in k1 k2 R (by omega) ?_
    intro h' hh'
    have key : ∃ L', h'.row b = some ⟨flatE L', 30, 0, 0, false⟩ ∧ L'.length = L.length ∧ L'.take (i + fs.length) = L.take i ++ fs ∧ Fr h0 h' ∧ b < h'.next := by
      rcases hh' with ⟨e, rfl⟩ | rfl
      · subst e
        exact ⟨L, k2, rfl, by simp, hf, k1⟩
      · exact ⟨setE L i fs, by rw [row_put, if_pos rfl], setE_len _ _ _ (by omega), setE_take _ _ _ (by omega), hf.put _ k0, k1⟩
    obtain ⟨L', r1, r2, r3, r4, r5⟩ := key
    rw [blt_len_slice un22, ← r2]
    rw [sliceV_cl ⟨_, r1, rfl⟩ (m := L'.length) (mx := none) rfl (hh := n) (bound_some n _ _ (by omega)) (bound_some (i + fs.length) _ _ (by omega)) (by omega) rfl]
    rw [if_neg (by omega), bindO_some, Nat.zero_add, show n - (i + fs.length) = 1 by omega]
    refine clear_one r1 (by omega) ⟨r4.put _ k0, ?_⟩
    have hs := setE_len L' (i + fs.length) [z0] (by simp; omega)
    have := OwnSl.at (h0 := h0) (h := h'.put b (.row ⟨flatE (setE L' (i + fs.length) [z0]), 30, 0, 0, false⟩)) b (i + fs.length) _ k0 r5 (by rw [row_put, if_pos rfl]) (by rw [hs]; omega)
    rw [hs, setE_take0 _ _ _ (by omega), r3] at this
    have e : delE (L.take n) i = L.take i ++ fs := by
      unfold delE; rw [hfs, List.take_take]; congr 2; omega
    rw [e]; exact this
end Go.Proofs.YthbmhdlbphkljaaGreatDoor
