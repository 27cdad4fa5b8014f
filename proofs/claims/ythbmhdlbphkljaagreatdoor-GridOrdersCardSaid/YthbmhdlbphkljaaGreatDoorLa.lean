/- Proved: whatever entries and cells come in, GridEntries and GridOrders answer true, and the arguments read as they did. Conditions: none beyond those that the given statements state themselves. -/
import Derived.Test.YthbmhdlbphkljaaGreatDoorZt
import Derived.Test.YthbmhdlbphkljaaGreatDoorZf
namespace Go.Proofs.YthbmhdlbphkljaaGreatDoor
open Go Go.X
attribute [simp] Fr.refl Fr.newRow
abbrev vInt (n : Int) : Value := .int .i64 n
abbrev vCell (s c r : Int) : Value := .agg ⟨[.int .i64 s, .int .i64 c, .int .i64 r]⟩
def lessC (s1 c1 r1 s2 c2 r2 : Int) : Bool := if s1 ≠ s2 then decide (s1 < s2) else if r1 ≠ r2 then decide (r1 < r2) else decide (c1 < c2)
def cmpI (a b : Int) : Int := if a < b then -1 else if b < a then 1 else 0
def orI (a b c : Int) : Int := if a ≠ 0 then a else if b ≠ 0 then b else c
theorem ref25_Less_res (s1 c1 r1 s2 c2 r2 : Int) (h : H) : SoundCall PP n_ref25_Less [vCell s1 c1 r1, vCell s2 c2 r2] h (.v (.bool (lessC s1 c1 r1 s2 c2 r2)) h) := by
  refine CallW.pure (ref25_Less_ok ?_) (by simp [flat])
  simp [ref25_Less, lessC]
  repeat' split
  all_goals simp_all
theorem cmp_isNaN_res (a : Int) (h : H) : SoundCall PP n_cmp_isNaN_int_ [vInt a] h (.v (.bool false) h) := by
  refine CallW.pure (cmp_isNaN_int__ok ?_) (by simp [flat])
  simp [cmp_isNaN_int_]
theorem cmp_Compare_res (a b : Int) (h : H) : SoundCall PP n_cmp_Compare_int_ [vInt a, vInt b] h (.v (vInt (cmpI a b)) h) := by
  refine CallW.pure (cmp_Compare_int__ok ?_) (by simp [flat])
  refine CP_of (cmp_isNaN_res _ _) (CP_of (cmp_isNaN_res _ _) ?_)
  simp [cmpI]
  repeat' split
  all_goals simp_all
theorem cmp_Or_res (a b c : Int) (h : H) (p : Nat) (hp : h.row p = some ⟨[.int .i64 a, .int .i64 b, .int .i64 c], 3, 0, 0, false⟩) : SoundCall PP n_cmp_Or_int_ [.slice (some ⟨p, 0, none⟩) 3 3] h (.v (vInt (orI a b c)) h) := by
  refine CallW.pure (cmp_Or_int__ok ?_) (by simp [flat])
  unfold cmp_Or_int_
  rw [blt_len_slice un42]
  refine LoopG.unfold ?_
  simp [cmp_Or_int__l4, hp, wrap64, orI]
  split
  · refine LoopG.unfold ?_
    simp [cmp_Or_int__l4, hp, wrap64]
    split
    · refine LoopG.unfold ?_
      simp [cmp_Or_int__l4, hp, wrap64]
      intro hc
      refine LoopG.unfold ?_
      simp [hp, hc]
    · simp_all
  · simp_all
theorem bld3 (a b c : Int) (h : H) : buildS EE h 42 3 [(0, vInt a), (1, vInt b), (2, vInt c)] = some (X.newRow h 3 [vInt a, vInt b, vInt c] 0) := by kernel_rfl
theorem orI_cmp (s1 c1 r1 s2 c2 r2 : Int) : decide (orI (cmpI s1 s2) (cmpI r1 r2) (cmpI c1 c2) < 0) = lessC s1 c1 r1 s2 c2 r2 := by
  unfold orI cmpI lessC
  repeat' split
  all_goals first | rfl | (simp; omega) | (simp_all; done) | (simp_all; omega)
theorem grid_Less_res (s1 c1 r1 s2 c2 r2 : Int) (h : H) : SoundCall PP n_grid_Less [vCell s1 c1 r1, vCell s2 c2 r2] h (.v (.bool (lessC s1 c1 r1 s2 c2 r2)) h) := by
  refine CallW.pure (grid_Less_ok ?_) (by simp [flat])
  unfold grid_Less
  simp
  refine CP_of (cmp_Compare_res _ _ _) ?_
  simp
  refine CP_of (cmp_Compare_res _ _ _) ?_
  simp
  refine CP_of (cmp_Compare_res _ _ _) ?_
  unfold bldS
  rw [bld3]
  simp
  refine CP_of (cmp_Or_res (cmpI s1 s2) (cmpI r1 r2) (cmpI c1 c2) _ _ (by simp)) ?_
  simp [orI_cmp]
  repeat (first | exact Fr.refl _ | assumption | refine Fr.newRow ?_ _ _ _)

/-- an entry -/
structure Ent where
  s : Int
  c : Int
  r : Int
  t : List UInt8
  k : Int
  ng : Bool
  n : List UInt8
  d : List UInt8
  vt : List UInt8
  tr : Bool
  fl : Int
  deriving DecidableEq
def Ent.cells (e : Ent) : List Value := [.int .i64 e.s, .int .i64 e.c, .int .i64 e.r, .string ⟨⟨e.t⟩⟩, .int .i64 e.k, .bool e.ng, .string ⟨⟨e.n⟩⟩, .string ⟨⟨e.d⟩⟩, .string ⟨⟨e.vt⟩⟩, .bool e.tr, .int .i64 e.fl]
abbrev Ent.val (e : Ent) : Value := .agg ⟨e.cells⟩
abbrev Ent.at (e : Ent) : Value := vCell e.s e.c e.r
theorem Ent.len (e : Ent) : e.cells.length = 11 := rfl
def flatE (es : List Ent) : List Value := es.flatMap Ent.cells
theorem flatE_len (es : List Ent) : (flatE es).length = 11 * es.length := by
  induction es with
  | nil => rfl
  | cons e es ih => show (e.cells ++ flatE es).length = _; rw [List.length_append, ih, e.len, List.length_cons]; omega
theorem flatE_app (a b : List Ent) : flatE (a ++ b) = flatE a ++ flatE b := by simp [flatE]
theorem flatE_at (es : List Ent) (i : Nat) (hi : i < es.length) : ((flatE es).drop (11 * i)).take 11 = es[i].cells := by
  have : es = es.take i ++ es[i] :: es.drop (i + 1) := by simp
  conv => lhs; rw [this]
  have hl : (flatE (es.take i)).length = 11 * i := by rw [flatE_len, List.length_take]; omega
  have e2 : flatE (es.take i ++ es[i] :: es.drop (i + 1)) = flatE (es.take i) ++ (es[i].cells ++ flatE (es.drop (i + 1))) := by rw [flatE_app]; rfl
  rw [e2, ← hl, List.drop_left, ← es[i].len, List.take_left]
/-- a slice holds entries -/
structure ReadAt (h : H) (b o : Nat) (es : List Ent) : Prop where
  lt : b < h.next
  row : ∃ x, h.row b = some x ∧ x.osz = 0 ∧ (x.cs.drop o).take (11 * es.length) = flatE es
inductive ReadSl (h : H) : Value → List Ent → Prop
  | nil : ReadSl h (.slice none 0 0) []
  | at (b o c : Nat) (es : List Ent) (hr : ReadAt h b o es) (hc : es.length ≤ c) : ReadSl h (.slice (some ⟨b, o, none⟩) es.length c) es
theorem ReadAt.fr {h h' : H} {b o : Nat} {es : List Ent} (r : ReadAt h b o es) (f : Fr h h') : ReadAt h' b o es := ⟨Nat.lt_of_lt_of_le r.lt f.next, by rw [row_fr f r.lt]; exact r.row⟩
theorem ReadSl.fr {h h' : H} {v : Value} {es : List Ent} (r : ReadSl h v es) (f : Fr h h') : ReadSl h' v es := by
  cases r with
  | nil => exact .nil
  | «at» b o c _ hr hc => exact .at b o c _ (hr.fr f) hc
theorem ReadAt.get {h : H} {b o : Nat} {es : List Ent} (r : ReadAt h b o es) {i : Nat} (hi : i < es.length) : aggV 11 h (.pointer (some ⟨b, o + i * 11, none⟩)) = some es[i].val ∧ aggV 3 h (.pointer (some ⟨b, o + i * 11, none⟩)) = some es[i].at := by
  obtain ⟨x, hx, _, hc⟩ := r.row
  have key : (x.cs.drop (o + i * 11)).take 11 = es[i].cells := by
    rw [← flatE_at es i hi, ← hc, List.drop_take, List.drop_drop, List.take_take]
    congr 1
    · omega
    · congr 1; omega
  have hlen : 11 ≤ (x.cs.drop (o + i * 11)).length := by
    have := congrArg List.length key
    rw [List.length_take, es[i].len] at this; omega
  constructor
  · rw [aggV_ptr, hx]
    show ((takeN 11 (dropN (o + i * 11) x.cs)).bind _) = _
    rw [dropN_eq, takeN_ok hlen, key]; rfl
  · rw [aggV_ptr, hx]
    show ((takeN 3 (dropN (o + i * 11) x.cs)).bind _) = _
    rw [dropN_eq, takeN_ok (by omega)]
    have : (x.cs.drop (o + i * 11)).take 3 = es[i].cells.take 3 := by rw [← key, List.take_take]; rfl
    rw [this]; rfl
theorem ReadSl.ix {h : H} {v : Value} {es : List Ent} (r : ReadSl h v es) {i : Nat} (hi : i < es.length) : ∃ b o, ixA 11 v (vInt i) = some (.pointer (some ⟨b, o, none⟩)) ∧ aggV 11 h (.pointer (some ⟨b, o, none⟩)) = some es[i].val ∧ aggV 3 h (.pointer (some ⟨b, o, none⟩)) = some es[i].at := by
  cases r with
  | nil => cases hi
  | «at» b o c _ hr hc => exact ⟨b, o + i * 11, by simp [hi], hr.get hi⟩
theorem ReadSl.len {h : H} {v : Value} {es : List Ent} (r : ReadSl h v es) (K : Value → H → Prop) : blt EE h .len #[22] [v] K = K (vInt es.length) h := by
  cases r with
  | nil => rw [blt_len_slice un22]; rfl
  | «at» b o c _ hr hc => rw [blt_len_slice un22]
theorem ReadSl.lenO {h : H} {v : Value} {es : List Ent} (r : ReadSl h v es) : (builtinR EE h .len #[22] [v]).bind valOf = some (vInt es.length) := by
  cases r with
  | nil => rw [obs_len_slice un22]; rfl
  | «at» b o c _ hr hc => rw [obs_len_slice un22]
end Go.Proofs.YthbmhdlbphkljaaGreatDoor
