/- A part of the evaluator of the model, and of the proof that what it answers is what a call comes to. No conditions of its own. -/
import Derived.Test.YthbmhdlbphkljaaGreatDoorXe
import Derived.Laws.StructEq
namespace Go.X
open Go
variable {P : Program} {E : Env}

theorem wrapI_eq (k : IntKind) (n : Int) : wrapI k n = k.wrap n := by
  cases k with
  | i8 => rfl
  | i16 => rfl
  | u16 => rfl
  | i64 =>
    show wrapS 18446744073709551616 9223372036854775808 n = _
    have e : IntKind.i64.wrap n = if n % 18446744073709551616 ≥ 9223372036854775808 then n % 18446744073709551616 - 18446744073709551616 else n % 18446744073709551616 := by
      simp [IntKind.wrap, IntKind.bits, IntKind.signed]
    rw [e]
    cases n with
    | ofNat m =>
      show Bool.rec (motive := fun _ => Int) (Bool.rec (motive := fun _ => Int) (.negSucc (18446744073709551616 - 1 - m % 18446744073709551616)) (.ofNat (m % 18446744073709551616)) (Nat.ble (m % 18446744073709551616 + 1) 9223372036854775808)) (.ofNat m) (Nat.ble (m + 1) 9223372036854775808) = _
      rw [natBle_eq, natBle_eq]
      by_cases h1 : m + 1 ≤ 9223372036854775808
      · simp only [h1, decide_true]; split <;> simp only [Int.ofNat_eq_natCast] at * <;> omega
      · by_cases h2 : m % 18446744073709551616 + 1 ≤ 9223372036854775808
        · simp only [h1, h2, decide_true, decide_false]; split <;> simp only [Int.ofNat_eq_natCast] at * <;> omega
        · simp only [h1, h2, decide_false]; split <;> simp only [Int.ofNat_eq_natCast, Int.negSucc_eq] at * <;> omega
    | negSucc m =>
      show Bool.rec (motive := fun _ => Int) (Bool.rec (motive := fun _ => Int) (.ofNat (18446744073709551616 - 1 - m % 18446744073709551616)) (.negSucc (m % 18446744073709551616)) (Nat.ble (m % 18446744073709551616 + 1) 9223372036854775808)) (.negSucc m) (Nat.ble (m + 1) 9223372036854775808) = _
      rw [natBle_eq, natBle_eq]
      by_cases h1 : m + 1 ≤ 9223372036854775808
      · simp only [h1, decide_true]; split <;> simp only [Int.negSucc_eq] at * <;> omega
      · by_cases h2 : m % 18446744073709551616 + 1 ≤ 9223372036854775808
        · simp only [h1, h2, decide_true, decide_false]; split <;> simp only [Int.negSucc_eq] at * <;> omega
        · simp only [h1, h2, decide_false]; split <;> simp only [Int.ofNat_eq_natCast, Int.negSucc_eq] at * <;> omega
  | i32 =>
    show wrapS 4294967296 2147483648 n = _
    have e : IntKind.i32.wrap n = if n % 4294967296 ≥ 2147483648 then n % 4294967296 - 4294967296 else n % 4294967296 := by
      simp [IntKind.wrap, IntKind.bits, IntKind.signed]
    rw [e]
    cases n with
    | ofNat m =>
      show Bool.rec (motive := fun _ => Int) (Bool.rec (motive := fun _ => Int) (.negSucc (4294967296 - 1 - m % 4294967296)) (.ofNat (m % 4294967296)) (Nat.ble (m % 4294967296 + 1) 2147483648)) (.ofNat m) (Nat.ble (m + 1) 2147483648) = _
      rw [natBle_eq, natBle_eq]
      by_cases h1 : m + 1 ≤ 2147483648
      · simp only [h1, decide_true]; split <;> simp only [Int.ofNat_eq_natCast] at * <;> omega
      · by_cases h2 : m % 4294967296 + 1 ≤ 2147483648
        · simp only [h1, h2, decide_true, decide_false]; split <;> simp only [Int.ofNat_eq_natCast] at * <;> omega
        · simp only [h1, h2, decide_false]; split <;> simp only [Int.ofNat_eq_natCast, Int.negSucc_eq] at * <;> omega
    | negSucc m =>
      show Bool.rec (motive := fun _ => Int) (Bool.rec (motive := fun _ => Int) (.ofNat (4294967296 - 1 - m % 4294967296)) (.negSucc (m % 4294967296)) (Nat.ble (m % 4294967296 + 1) 2147483648)) (.negSucc m) (Nat.ble (m + 1) 2147483648) = _
      rw [natBle_eq, natBle_eq]
      by_cases h1 : m + 1 ≤ 2147483648
      · simp only [h1, decide_true]; split <;> simp only [Int.negSucc_eq] at * <;> omega
      · by_cases h2 : m % 4294967296 + 1 ≤ 2147483648
        · simp only [h1, h2, decide_true, decide_false]; split <;> simp only [Int.negSucc_eq] at * <;> omega
        · simp only [h1, h2, decide_false]; split <;> simp only [Int.ofNat_eq_natCast, Int.negSucc_eq] at * <;> omega
  | u64 =>
    show wrapU 18446744073709551616 n = _
    have e : IntKind.u64.wrap n = n % 18446744073709551616 := by simp [IntKind.wrap, IntKind.bits, IntKind.signed]
    rw [e]
    cases n with
    | ofNat m => show Int.ofNat (m % 18446744073709551616) = _; simp only [Int.ofNat_eq_natCast]; omega
    | negSucc m => show Int.ofNat (18446744073709551616 - 1 - m % 18446744073709551616) = _; simp only [Int.ofNat_eq_natCast, Int.negSucc_eq]; omega
  | u32 =>
    show wrapU 4294967296 n = _
    have e : IntKind.u32.wrap n = n % 4294967296 := by simp [IntKind.wrap, IntKind.bits, IntKind.signed]
    rw [e]
    cases n with
    | ofNat m => show Int.ofNat (m % 4294967296) = _; simp only [Int.ofNat_eq_natCast]; omega
    | negSucc m => show Int.ofNat (4294967296 - 1 - m % 4294967296) = _; simp only [Int.ofNat_eq_natCast, Int.negSucc_eq]; omega
  | u8 =>
    show wrapU 256 n = _
    have e : IntKind.u8.wrap n = n % 256 := by simp [IntKind.wrap, IntKind.bits, IntKind.signed]
    rw [e]
    cases n with
    | ofNat m => show Int.ofNat (m % 256) = _; simp only [Int.ofNat_eq_natCast]; omega
    | negSucc m => show Int.ofNat (256 - 1 - m % 256) = _; simp only [Int.ofNat_eq_natCast, Int.negSucc_eq]; omega

theorem toList_data (s : ByteArray) : s.toList = s.data.toList := ByteArray.toList_eq ..

theorem wrap_mod (k : IntKind) (n : Int) : k.wrap (n % (2 ^ k.bits : Int)) = k.wrap n := by
  unfold IntKind.wrap
  rw [Int.emod_emod_of_dvd _ (Int.dvd_refl _)]
theorem bits_and (k : IntKind) (a b : Int) : bitsOf k Nat.land (fun a b => k.wrap (BitVec.ofInt k.bits a &&& BitVec.ofInt k.bits b).toNat) a b = k.wrap (BitVec.ofInt k.bits a &&& BitVec.ofInt k.bits b).toNat := by
  cases a with
  | ofNat a => cases b with
    | ofNat b =>
      show wrapI k (.ofNat (Nat.land a b)) = _
      rw [wrapI_eq]
      have : (BitVec.ofInt k.bits (Int.ofNat a) &&& BitVec.ofInt k.bits (Int.ofNat b)).toNat = (a &&& b) % 2 ^ k.bits := by
        simp [Nat.and_mod_two_pow]
      rw [this, ← wrap_mod k (Int.ofNat (Nat.land a b))]
      congr 1
    | negSucc b => rfl
  | negSucc a => cases b <;> rfl
theorem bits_or (k : IntKind) (a b : Int) : bitsOf k Nat.lor (fun a b => k.wrap (BitVec.ofInt k.bits a ||| BitVec.ofInt k.bits b).toNat) a b = k.wrap (BitVec.ofInt k.bits a ||| BitVec.ofInt k.bits b).toNat := by
  cases a with
  | ofNat a => cases b with
    | ofNat b =>
      show wrapI k (.ofNat (Nat.lor a b)) = _
      rw [wrapI_eq]
      have : (BitVec.ofInt k.bits (Int.ofNat a) ||| BitVec.ofInt k.bits (Int.ofNat b)).toNat = (a ||| b) % 2 ^ k.bits := by
        simp [Nat.or_mod_two_pow]
      rw [this, ← wrap_mod k (Int.ofNat (Nat.lor a b))]
      congr 1
    | negSucc b => rfl
  | negSucc a => cases b <;> rfl
theorem bits_xor (k : IntKind) (a b : Int) : bitsOf k Nat.xor (fun a b => k.wrap (BitVec.ofInt k.bits a ^^^ BitVec.ofInt k.bits b).toNat) a b = k.wrap (BitVec.ofInt k.bits a ^^^ BitVec.ofInt k.bits b).toNat := by
  cases a with
  | ofNat a => cases b with
    | ofNat b =>
      show wrapI k (.ofNat (Nat.xor a b)) = _
      rw [wrapI_eq]
      have : (BitVec.ofInt k.bits (Int.ofNat a) ^^^ BitVec.ofInt k.bits (Int.ofNat b)).toNat = (a ^^^ b) % 2 ^ k.bits := by
        simp [Nat.xor_mod_two_pow]
      rw [this, ← wrap_mod k (Int.ofNat (Nat.xor a b))]
      congr 1
    | negSucc b => rfl
  | negSucc a => cases b <;> rfl

theorem sameK_some {k k' : IntKind} {x : Option Value} {v : Value} (h : sameK k k' x = some v) : k = k' ∧ x = some v := by
  unfold sameK at h
  cases e : kindBeq k k' with
  | false => rw [e] at h; cases h
  | true => rw [e] at h; exact ⟨kindBeq_eq e, h⟩
theorem intBeq_false {a b : Int} (h : intBeq a b = false) : a ≠ b := by
  rw [intBeq_eq] at h; simpa using h
theorem intBin_sound {op : BinOp} {t : TypeId} {k k' : IntKind} {a b : Int} {v : Value} (h : intBin op k a k' b = some v) (W : World) :
    (Go.binOp op t (.int k a) (.int k' b)).run P W = .ok v W := by
  cases op with
  | add => obtain ⟨hk, hv⟩ := sameK_some h; subst hk; clear h; cases hv; simp [Go.binOp, Op.intArith, wrapI_eq, Sem.run_pure]
  | sub => obtain ⟨hk, hv⟩ := sameK_some h; subst hk; clear h; cases hv; simp [Go.binOp, Op.intArith, wrapI_eq, Sem.run_pure]
  | mul => obtain ⟨hk, hv⟩ := sameK_some h; subst hk; clear h; cases hv; simp [Go.binOp, Op.intArith, wrapI_eq, Sem.run_pure]
  | quo =>
    obtain ⟨hk, hv⟩ := sameK_some h
    subst hk; clear h
    cases e : intBeq b 0 with
    | true => rw [e] at hv; cases hv
    | false => rw [e] at hv; cases hv; simp [Go.binOp, Op.intDiv, wrapI_eq, intBeq_false e, Sem.run_pure]
  | rem =>
    obtain ⟨hk, hv⟩ := sameK_some h
    subst hk; clear h
    cases e : intBeq b 0 with
    | true => rw [e] at hv; cases hv
    | false => rw [e] at hv; cases hv; simp [Go.binOp, Op.intDiv, intBeq_false e, Sem.run_pure]
  | and => obtain ⟨hk, hv⟩ := sameK_some h; subst hk; clear h; cases hv; rw [bits_and]; simp [Go.binOp, Op.intBits, Sem.run_pure]
  | or => obtain ⟨hk, hv⟩ := sameK_some h; subst hk; clear h; cases hv; rw [bits_or]; simp [Go.binOp, Op.intBits, Sem.run_pure]
  | xor => obtain ⟨hk, hv⟩ := sameK_some h; subst hk; clear h; cases hv; rw [bits_xor]; simp [Go.binOp, Op.intBits, Sem.run_pure]
  | shl =>
    change shlI k a b = some v at h
    cases a with
    | negSucc a => cases b <;> cases h
    | ofNat a => cases b with
      | negSucc b => cases h
      | ofNat b =>
        cases h
        have h1 : ¬ (Int.ofNat b < 0) := by simp
        simp only [Go.binOp, Op.shift, h1, if_false, wrapI_eq]
        show Result.ok _ W = _
        congr 3
        show Int.ofNat a * 2 ^ (min b k.bits) = Int.ofNat (Nat.shiftLeft a (Nat.min b k.bits))
        rw [show Nat.shiftLeft a (Nat.min b k.bits) = a * 2 ^ (min b k.bits) from Nat.shiftLeft_eq a _]
        simp
  | shr =>
    change shrI k a b = some v at h
    cases a with
    | negSucc a => cases b <;> cases h
    | ofNat a => cases b with
      | negSucc b => cases h
      | ofNat b =>
        cases h
        have h1 : ¬ (Int.ofNat b < 0) := by simp
        simp only [Go.binOp, Op.shift, h1, if_false]
        show Result.ok _ W = _
        congr 2
        show Int.fdiv (Int.ofNat a) (2 ^ (min b k.bits)) = Int.ofNat (Nat.shiftRight a (Nat.min b k.bits))
        rw [show Nat.shiftRight a (Nat.min b k.bits) = a / 2 ^ (min b k.bits) from Nat.shiftRight_eq_div_pow a _]
        rw [show ((2 : Int) ^ (min b k.bits)) = ((2 ^ (min b k.bits) : Nat) : Int) from by simp, Int.fdiv_eq_ediv_of_nonneg _ (Int.natCast_nonneg _)]
        simp
  | andNot => obtain ⟨hk, hv⟩ := sameK_some h; subst hk; clear h; cases hv; simp [Go.binOp, Op.intBits, Sem.run_pure]
  | eql => obtain ⟨hk, hv⟩ := sameK_some h; subst hk; clear h; cases hv; simp [Go.binOp, Op.intCmp, intBeq_eq, Sem.run_pure]
  | neq => obtain ⟨hk, hv⟩ := sameK_some h; subst hk; clear h; cases hv; simp [Go.binOp, Op.intCmp, intBeq_eq, bne, Sem.run_pure]
  | lss => obtain ⟨hk, hv⟩ := sameK_some h; subst hk; clear h; cases hv; simp [Go.binOp, Op.intCmp, intBle_eq, Sem.run_pure]; rw [← decide_not]; congr 1; simp
  | leq => obtain ⟨hk, hv⟩ := sameK_some h; subst hk; clear h; cases hv; simp [Go.binOp, Op.intCmp, intBle_eq, Sem.run_pure]
  | gtr => obtain ⟨hk, hv⟩ := sameK_some h; subst hk; clear h; cases hv; simp [Go.binOp, Op.intCmp, intBle_eq, Sem.run_pure]; rw [← decide_not]; congr 1; simp
  | geq => obtain ⟨hk, hv⟩ := sameK_some h; subst hk; clear h; cases hv; simp [Go.binOp, Op.intCmp, intBle_eq, Sem.run_pure]
end Go.X
