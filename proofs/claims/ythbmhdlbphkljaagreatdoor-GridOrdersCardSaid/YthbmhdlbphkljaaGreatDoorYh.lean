/- A part of the evaluator of the model, and of the proof that what it answers is what a call comes to. No conditions of its own. -/
import Derived.Test.YthbmhdlbphkljaaGreatDoorYf
namespace Go.X
open Go

/-! a printed function at known values -/
attribute [simp] bindO_some
@[simp] theorem bindO_none {α : Type} (k : α → Prop) : bindO none k = False := rfl
theorem condP_t (X Y : Prop) : condP (.bool true) X Y = X := propext ⟨fun h => (by cases h with | yes e x => exact x | no e x => cases e), fun h => condP.yes rfl h⟩
theorem condP_f (X Y : Prop) : condP (.bool false) X Y = Y := propext ⟨fun h => (by cases h with | yes e x => cases e | no e x => exact x), fun h => condP.no rfl h⟩
@[simp] theorem condP_bool (b : Bool) (X Y : Prop) : condP (.bool b) X Y = if b = true then X else Y := by
  cases b
  · rw [condP_f]; simp
  · rw [condP_t]; simp
@[simp] theorem boolP_bool (b w : Bool) (X Y : Prop) : boolP (.bool b) w X Y = if b = w then X else Y := by cases b <;> cases w <;> rfl
@[simp] theorem rowPtr_eq (h : H) : rowPtr h = .pointer (some ⟨h.next, 0, none⟩) := rfl
@[simp] theorem hnew_eq (h : H) (e : TypeId) (c : List Value) (K : Value → H → Prop) : hnew h e c K = K (.pointer (some ⟨h.next, 0, none⟩)) (newRow h e c 0) := rfl
@[simp] theorem boxP_agg (h : H) (e : TypeId) (c : List Value) (K : Value → H → Prop) : boxP h e (.agg ⟨c⟩) K = K (.pointer (some ⟨h.next, 0, none⟩)) (newRow h e c 0) := rfl
@[simp] theorem boxP_int (h : H) (e : TypeId) (k : IntKind) (n : Int) (K : Value → H → Prop) : boxP h e (.int k n) K = K (.pointer (some ⟨h.next, 0, none⟩)) (newRow h e [.int k n] 0) := rfl
@[simp] theorem boxP_bool (h : H) (e : TypeId) (b : Bool) (K : Value → H → Prop) : boxP h e (.bool b) K = K (.pointer (some ⟨h.next, 0, none⟩)) (newRow h e [.bool b] 0) := rfl
@[simp] theorem boxP_str (h : H) (e : TypeId) (s : ByteArray) (K : Value → H → Prop) : boxP h e (.string s) K = K (.pointer (some ⟨h.next, 0, none⟩)) (newRow h e [.string s] 0) := rfl
@[simp] theorem boxP_slice (h : H) (e : TypeId) (a : Option Addr) (n c : Nat) (K : Value → H → Prop) : boxP h e (.slice a n c) K = K (.pointer (some ⟨h.next, 0, none⟩)) (newRow h e [.slice a n c] 0) := rfl
@[simp] theorem boxP_ptr (h : H) (e : TypeId) (a : Option Addr) (K : Value → H → Prop) : boxP h e (.pointer a) K = K (.pointer (some ⟨h.next, 0, none⟩)) (newRow h e [.pointer a] 0) := rfl
@[simp] theorem boxP_func (h : H) (e : TypeId) (f : Fn) (a c : Array Value) (K : Value → H → Prop) : boxP h e (.func f a c) K = K (.pointer (some ⟨h.next, 0, none⟩)) (newRow h e [.func f a c] 0) := rfl
@[simp] theorem next_newRow (h : H) (e : TypeId) (c : List Value) (k : Nat) : (newRow h e c k).next = h.next + 1 := rfl
@[simp] theorem next_put (h : H) (b : Nat) (o : AObj) : (h.put b o).next = h.next := rfl
@[simp] theorem next_del (h : H) (b : Nat) : (h.del b).next = h.next := rfl
theorem row_of_get {h h' : H} {b b' : Nat} (e : h.get b = h'.get b') : h.row b = h'.row b' := by unfold H.row; rw [e]
theorem row_newRow (h : H) (e : TypeId) (c : List Value) (k b : Nat) : (newRow h e c k).row b = if b = h.next then some ⟨c, e, k, 0, false⟩ else h.row b := by
  by_cases hb : b = h.next
  · rw [if_pos hb]; unfold H.row; rw [show (newRow h e c k).get b = some (.row ⟨c, e, k, 0, false⟩) from (H.get_new _ _ _).trans (if_pos hb)]
  · rw [if_neg hb]; exact row_of_get ((H.get_new _ _ _).trans (if_neg hb))
theorem row_put (h : H) (b c : Nat) (x : Blk) : (h.put b (.row x)).row c = if c = b then some x else h.row c := by
  by_cases hb : c = b
  · rw [if_pos hb]; unfold H.row; rw [show (h.put b (.row x)).get c = some (.row x) from (H.get_put _ _ _ _).trans (if_pos hb)]
  · rw [if_neg hb]; exact row_of_get ((H.get_put _ _ _ _).trans (if_neg hb))
theorem row_del (h : H) (b c : Nat) : (h.del b).row c = if c = b then none else h.row c := by
  by_cases hb : c = b
  · rw [if_pos hb]; unfold H.row; rw [show (h.del b).get c = none from (H.get_del _ _ _).trans (if_pos hb)]
  · rw [if_neg hb]; exact row_of_get ((H.get_del _ _ _).trans (if_neg hb))
attribute [simp] row_newRow row_put row_del
theorem row_fr {h h' : H} (hf : Fr h h') {b : Nat} (hb : b < h.next) : h'.row b = h.row b := row_of_get (hf.old b hb)
@[simp] theorem addrOf_ptr (b o : Nat) : addrOf (.pointer (some ⟨b, o, none⟩)) = some ⟨b, o, none⟩ := rfl
@[simp] theorem addO_eq (b o n : Nat) : addO ⟨b, o, none⟩ n = ⟨b, o + n, none⟩ := rfl
@[simp] theorem cellV_ptr (h : H) (b o : Nat) : cellV h (.pointer (some ⟨b, o, none⟩)) = (h.row b).bind fun x => nth x.cs o := rfl
@[simp] theorem aggV_ptr (n : Nat) (h : H) (b o : Nat) : aggV n h (.pointer (some ⟨b, o, none⟩)) = (h.row b).bind fun x => (takeN n (dropN o x.cs)).bind fun c => some (.agg ⟨c⟩) := by
  show ((h.row b).bind fun x => takeN n (dropN o x.cs)).bind _ = _
  cases h.row b <;> rfl
@[simp] theorem offA_ptr (b o n : Nat) : offA n (.pointer (some ⟨b, o, none⟩)) = some (.pointer (some ⟨b, o + n, none⟩)) := rfl
theorem storeCells_eq (h : H) (b o : Nat) (vs : List Value) : storeCells h ⟨b, o, none⟩ vs = (h.row b).bind fun x => if x.ro = false ∧ x.frz ≤ o ∧ o + vs.length ≤ x.cs.length ∧ allOne vs = true then some (h.put b (.row { x with cs := spliceAt x.cs o vs })) else none := by
  unfold storeCells
  show (h.row b).bind _ = _
  cases h.row b with
  | none => rfl
  | some x =>
    simp only [Option.bind_some]
    rw [natBle_eq, natBle_eq, len_eq, len_eq]
    by_cases c : x.ro = false ∧ x.frz ≤ o ∧ o + vs.length ≤ x.cs.length ∧ allOne vs = true
    · rw [if_pos c]; simp [c.1, c.2.1, c.2.2.1, c.2.2.2]
    · rw [if_neg c]
      cases q : x.ro
      · have c' : ¬ (x.frz ≤ o ∧ o + vs.length ≤ x.cs.length ∧ allOne vs = true) := fun r => c ⟨q, r⟩
        by_cases c1 : x.frz ≤ o
        · by_cases c2 : o + vs.length ≤ x.cs.length
          · have c3 : allOne vs = false := by cases e : allOne vs with
              | false => rfl
              | true => exact absurd ⟨c1, c2, e⟩ c'
            simp [c1, c2, c3]
          · simp [c1, c2]
        · simp [c1]
      · simp
@[simp] theorem stV_agg (n : Nat) (h : H) (b o : Nat) (cs : List Value) : stV n h (.pointer (some ⟨b, o, none⟩)) (.agg ⟨cs⟩) = if cs.length = n then storeCells h ⟨b, o, none⟩ cs else none := by
  show (bif Nat.beq (len cs) n then storeCells h ⟨b, o, none⟩ cs else none) = _
  rw [natBeq_eq, len_eq]; by_cases e : cs.length = n <;> simp [e]
theorem stV_one (n : Nat) (h : H) (b o : Nat) (v : Value) (hv : cells v = some [v]) : stV n h (.pointer (some ⟨b, o, none⟩)) v = if n = 1 then storeCells h ⟨b, o, none⟩ [v] else none := by
  show (cells v).bind _ = _
  rw [hv]
  show (bif Nat.beq (len [v]) n then storeCells h ⟨b, o, none⟩ [v] else none) = _
  rw [natBeq_eq, len_eq]
  by_cases e : n = 1
  · subst e; simp
  · have : ¬ [v].length = n := fun q => e (by simpa using q.symm)
    have e2 : ¬ 1 = n := fun q => e q.symm
    simp [e, e2]
@[simp] theorem stV_int (n : Nat) (h : H) (b o : Nat) (k : IntKind) (m : Int) : stV n h (.pointer (some ⟨b, o, none⟩)) (.int k m) = if n = 1 then storeCells h ⟨b, o, none⟩ [.int k m] else none := stV_one _ _ _ _ _ rfl
@[simp] theorem stV_bool (n : Nat) (h : H) (b o : Nat) (m : Bool) : stV n h (.pointer (some ⟨b, o, none⟩)) (.bool m) = if n = 1 then storeCells h ⟨b, o, none⟩ [.bool m] else none := stV_one _ _ _ _ _ rfl
@[simp] theorem stV_str (n : Nat) (h : H) (b o : Nat) (m : ByteArray) : stV n h (.pointer (some ⟨b, o, none⟩)) (.string m) = if n = 1 then storeCells h ⟨b, o, none⟩ [.string m] else none := stV_one _ _ _ _ _ rfl
@[simp] theorem stV_slice (n : Nat) (h : H) (b o : Nat) (a : Option Addr) (l c : Nat) : stV n h (.pointer (some ⟨b, o, none⟩)) (.slice a l c) = if n = 1 then storeCells h ⟨b, o, none⟩ [.slice a l c] else none := stV_one _ _ _ _ _ rfl
@[simp] theorem stV_ptr (n : Nat) (h : H) (b o : Nat) (a : Option Addr) : stV n h (.pointer (some ⟨b, o, none⟩)) (.pointer a) = if n = 1 then storeCells h ⟨b, o, none⟩ [.pointer a] else none := stV_one _ _ _ _ _ rfl
attribute [simp] storeCells_eq
@[simp] theorem allOne_nil : allOne [] = true := rfl
@[simp] theorem allOne_cons (v : Value) (l : List Value) : allOne (v :: l) = (oneCell v && allOne l) := by
  show Bool.rec (motive := fun _ => Bool) false (allOne l) (oneCell v) = _
  cases oneCell v <;> rfl
@[simp] theorem oneCell_int (k : IntKind) (n : Int) : oneCell (.int k n) = true := rfl
@[simp] theorem oneCell_bool (b : Bool) : oneCell (.bool b) = true := rfl
@[simp] theorem oneCell_str (s : ByteArray) : oneCell (.string s) = true := rfl
@[simp] theorem oneCell_slice (a : Option Addr) (l c : Nat) : oneCell (.slice a l c) = true := rfl
@[simp] theorem oneCell_ptr (a : Option Addr) : oneCell (.pointer a) = true := rfl
@[simp] theorem oneCell_func (f : Fn) (a c : Array Value) : oneCell (.func f a c) = true := rfl
@[simp] theorem nth_nil (i : Nat) : nth [] i = none := rfl
@[simp] theorem nth_zero (a : Value) (l : List Value) : nth (a :: l) 0 = some a := rfl
@[simp] theorem nth_succ (a : Value) (l : List Value) (i : Nat) : nth (a :: l) (i + 1) = nth l i := rfl
@[simp] theorem dropN_zero (l : List Value) : dropN 0 l = l := rfl
@[simp] theorem dropN_succ (n : Nat) (a : Value) (l : List Value) : dropN (n + 1) (a :: l) = dropN n l := rfl
@[simp] theorem takeN_zero (l : List Value) : takeN 0 l = some [] := rfl
@[simp] theorem takeN_succ (n : Nat) (a : Value) (l : List Value) : takeN (n + 1) (a :: l) = (takeN n l).map (a :: ·) := by
  show Option.rec (motive := fun _ => Option (List Value)) none (fun r => some (a :: r)) (takeN n l) = _
  cases takeN n l <;> rfl
theorem takeN_ok {n : Nat} {l : List Value} (h : n ≤ l.length) : takeN n l = some (l.take n) := by
  induction n generalizing l with
  | zero => simp
  | succ n ih =>
    cases l with
    | nil => simp at h
    | cons a l => rw [takeN_succ, ih (by simpa using h)]; rfl
@[simp] theorem splice_nil (c : List Value) : splice c [] = c := by cases c <;> rfl
@[simp] theorem splice_cons (a v : Value) (c vs : List Value) : splice (a :: c) (v :: vs) = v :: splice c vs := rfl
@[simp] theorem spliceAt_zero (a : Value) (c vs : List Value) : spliceAt (a :: c) 0 vs = splice (a :: c) vs := rfl
@[simp] theorem spliceAt_succ (a : Value) (c vs : List Value) (k : Nat) : spliceAt (a :: c) (k + 1) vs = a :: spliceAt c k vs := rfl
@[simp] theorem extractV_tuple (l : List Value) (i : Nat) : extractV (.tuple ⟨l⟩) i = nth l i := rfl
@[simp] theorem fldC_agg (o : Nat) (l : List Value) : fldC o (.agg ⟨l⟩) = nth l o := rfl
@[simp] theorem fldA_agg (o n : Nat) (l : List Value) : fldA o n (.agg ⟨l⟩) = (takeN n (dropN o l)).bind fun c => some (.agg ⟨c⟩) := rfl
@[simp] theorem pickV_bool (b : Bool) (x y : Value) : pickV (.bool b) x y = some (if b = true then x else y) := by cases b <;> rfl
@[simp] theorem nilV_ptr (a : Addr) : nilV (.pointer (some a)) = some (.pointer (some a)) := rfl
@[simp] theorem nilV_func (f : FuncId) (a c : Array Value) : nilV (.func (.func f) a c) = some (.func (.func f) a c) := rfl
@[simp] theorem unOp_not (b : Bool) : X.unOp .not (.bool b) = some (.bool !b) := rfl
@[simp] theorem kindBeq_self (k : IntKind) : kindBeq k k = true := by cases k <;> rfl
section ints
variable (E : Env) (t : TypeId) (k : IntKind) (a b : Int)
theorem sameK_self (v : Option Value) : sameK k k v = v := by unfold sameK; rw [kindBeq_self]
@[simp] theorem binOp_lss : X.binOp E .lss t (.int k a) (.int k b) = some (.bool (decide (a < b))) := by
  show sameK k k (some (.bool (!intBle b a))) = _; rw [sameK_self, intBle_eq]; simp [← decide_not]
@[simp] theorem binOp_leq : X.binOp E .leq t (.int k a) (.int k b) = some (.bool (decide (a ≤ b))) := by
  show sameK k k (some (.bool (intBle a b))) = _; rw [sameK_self, intBle_eq]
@[simp] theorem binOp_gtr : X.binOp E .gtr t (.int k a) (.int k b) = some (.bool (decide (b < a))) := by
  show sameK k k (some (.bool (!intBle a b))) = _; rw [sameK_self, intBle_eq]; simp [← decide_not]
@[simp] theorem binOp_geq : X.binOp E .geq t (.int k a) (.int k b) = some (.bool (decide (b ≤ a))) := by
  show sameK k k (some (.bool (intBle b a))) = _; rw [sameK_self, intBle_eq]
@[simp] theorem binOp_ieql : X.binOp E .eql t (.int k a) (.int k b) = some (.bool (decide (a = b))) := by
  show sameK k k (some (.bool (intBeq a b))) = _; rw [sameK_self, intBeq_eq]
  by_cases h : a = b <;> simp [h]
@[simp] theorem binOp_ineq : X.binOp E .neq t (.int k a) (.int k b) = some (.bool (decide (a ≠ b))) := by
  show sameK k k (some (.bool (!intBeq a b))) = _; rw [sameK_self, intBeq_eq]
  by_cases h : a = b <;> simp [h]
@[simp] theorem binOp_add : X.binOp E .add t (.int k a) (.int k b) = some (.int k (k.wrap (a + b))) := by
  show sameK k k (some (.int k (wrapI k (a + b)))) = _; rw [sameK_self, wrapI_eq]
@[simp] theorem binOp_sub : X.binOp E .sub t (.int k a) (.int k b) = some (.int k (k.wrap (a - b))) := by
  show sameK k k (some (.int k (wrapI k (a - b)))) = _; rw [sameK_self, wrapI_eq]
@[simp] theorem binOp_mul : X.binOp E .mul t (.int k a) (.int k b) = some (.int k (k.wrap (a * b))) := by
  show sameK k k (some (.int k (wrapI k (a * b)))) = _; rw [sameK_self, wrapI_eq]
end ints
theorem wrap64 {n : Int} (h1 : -9223372036854775808 ≤ n) (h2 : n ≤ 9223372036854775807) : IntKind.i64.wrap n = n := by
  rw [← wrapI_eq]
  cases n with
  | ofNat m =>
    show wrapS _ _ (Int.ofNat m) = _
    have : Nat.blt m 9223372036854775808 = true := by rw [natBlt_eq]; simp; have h2' : (m : Int) ≤ 9223372036854775807 := h2; omega
    unfold wrapS; simp only; rw [this]
  | negSucc m =>
    show wrapS _ _ (Int.negSucc m) = _
    have : Nat.blt m 9223372036854775808 = true := by rw [natBlt_eq]; simp; omega
    unfold wrapS; simp only; rw [this]
/-- strings as lists of bytes -/
abbrev st (l : List UInt8) : Value := .string ⟨⟨l⟩⟩
theorem string_st (s : ByteArray) : Value.string s = st s.data.toList := rfl
section strs
variable (E : Env) (t : TypeId) (a b : List UInt8)
@[simp] theorem binOp_seql : X.binOp E .eql t (.string ⟨⟨a⟩⟩) (.string ⟨⟨b⟩⟩) = some (.bool (decide (a = b))) := by
  show some (Value.bool (listBeq a b)) = _; rw [listBeq_eq]; by_cases h : a = b <;> simp [h]
@[simp] theorem binOp_sneq : X.binOp E .neq t (.string ⟨⟨a⟩⟩) (.string ⟨⟨b⟩⟩) = some (.bool (decide (a ≠ b))) := by
  show some (Value.bool !(listBeq a b)) = _; rw [listBeq_eq]; by_cases h : a = b <;> simp [h]
@[simp] theorem binOp_sadd : X.binOp E .add t (.string ⟨⟨a⟩⟩) (.string ⟨⟨b⟩⟩) = if a.length + b.length ≤ 9223372036854775807 then some (.string ⟨⟨a ++ b⟩⟩) else none := by
  show (bif Nat.ble (len a + len b) 9223372036854775807 then some (Value.string ⟨⟨app a b⟩⟩) else none) = _
  rw [natBle_eq, len_eq, len_eq, app_eq]; by_cases h : a.length + b.length ≤ 9223372036854775807 <;> simp [h]
end strs
@[simp] theorem ixA_slice (s b o n c : Nat) (k : IntKind) (i : Int) : ixA s (.slice (some ⟨b, o, none⟩) n c) (.int k i) = if 0 ≤ i ∧ i.toNat < n then some (.pointer (some ⟨b, o + i.toNat * s, none⟩)) else none := by
  cases i with
  | ofNat i =>
    show (bif Nat.blt i n then some (Value.pointer (some ⟨b, o + i * s, none⟩)) else none) = _
    rw [natBlt_eq]
    by_cases h : i < n <;> simp [h]
  | negSucc i => rw [if_neg (by omega)]; rfl
@[simp] theorem ixA_nil (s n c : Nat) (i : Value) : ixA s (.slice none n c) i = none := rfl
@[simp] theorem ixS_str (l : List UInt8) (k : IntKind) (i : Int) : ixS (.string ⟨⟨l⟩⟩) (.int k i) = if 0 ≤ i then (l[i.toNat]?).bind fun b => some (.int .u8 b.toNat) else none := by
  cases i with
  | ofNat i => show (nthB l i).bind _ = _; rw [nthB_eq]; simp
  | negSucc i => rw [if_neg (by omega)]; rfl
theorem blt_len_slice {E : Env} {t e : TypeId} (hu : E.under t = some (.slice e)) (h : H) (a : Option Addr) (n c : Nat) (K : Value → H → Prop) : blt E h .len #[t] [.slice a n c] K = K (.int .i64 n) h := by
  show bindO ((some t).bind fun t => (E.under t).bind _) (valK K) = _
  simp only [Option.bind_some, hu]; rfl
theorem blt_len_str {E : Env} {t : TypeId} (hu : E.under t = some .string) (h : H) (l : List UInt8) (K : Value → H → Prop) : blt E h .len #[t] [.string ⟨⟨l⟩⟩] K = K (.int .i64 l.length) h := by
  show bindO ((some t).bind fun t => (E.under t).bind _) (valK K) = _
  simp only [Option.bind_some, hu]
  show K (.int .i64 ((len l : Nat) : Int)) h = _
  rw [len_eq]
theorem obs_len_slice {E : Env} {t e : TypeId} (hu : E.under t = some (.slice e)) (h : H) (a : Option Addr) (n c : Nat) : (builtinR E h .len #[t] [.slice a n c]).bind valOf = some (.int .i64 n) := by
  show ((some t).bind fun t => (E.under t).bind _).bind valOf = _
  simp only [Option.bind_some, hu]; rfl
theorem obs_len_str {E : Env} {t : TypeId} (hu : E.under t = some .string) (h : H) (l : List UInt8) : (builtinR E h .len #[t] [.string ⟨⟨l⟩⟩]).bind valOf = some (.int .i64 l.length) := by
  show ((some t).bind fun t => (E.under t).bind _).bind valOf = _
  simp only [Option.bind_some, hu]
  show some (Value.int .i64 ((len l : Nat) : Int)) = _
  rw [len_eq]
@[simp] theorem flat_int (k : IntKind) (n : Int) : flat (.int k n) = true := by simp [flat]
@[simp] theorem flat_bool (b : Bool) : flat (.bool b) = true := by simp [flat]
@[simp] theorem flat_str (s : ByteArray) : flat (.string s) = true := by simp [flat]
@[simp] theorem flat_tuple (l : List Value) : flat (.tuple ⟨l⟩) = flatL l := by simp [flat]
@[simp] theorem flat_agg (l : List Value) : flat (.agg ⟨l⟩) = flatL l := by simp [flat]
@[simp] theorem flatL_nil : flatL [] = true := by simp [flatL]
@[simp] theorem flatL_cons (v : Value) (l : List Value) : flatL (v :: l) = (flat v && flatL l) := by simp [flatL]
theorem nthD_nth (l : List Value) (i : Nat) : nthD l i = (nth l i).getD undef := by rw [nthD_eq, nth_eq]
@[simp] theorem nthD_zero (a : Value) (l : List Value) : nthD (a :: l) 0 = a := rfl
@[simp] theorem nthD_succ (a : Value) (l : List Value) (i : Nat) : nthD (a :: l) (i + 1) = nthD l i := rfl
theorem intBeq_dec (a b : Int) : intBeq a b = decide (a = b) := by rw [intBeq_eq]; by_cases h : a = b <;> simp [h]
theorem listBeq_dec (a b : List UInt8) : listBeq a b = decide (a = b) := by rw [listBeq_eq]; by_cases h : a = b <;> simp [h]
theorem beq_dec (a b : Bool) : (a == b) = decide (a = b) := by cases a <;> cases b <;> rfl
theorem thenB_some (x b : Bool) : thenB (some x) b = some (b && x) := by cases b <;> rfl
end Go.X
