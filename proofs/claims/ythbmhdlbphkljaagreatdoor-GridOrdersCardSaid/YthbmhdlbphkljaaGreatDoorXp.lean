/- A part of the evaluator of the model, and of the proof that what it answers is what a call comes to. No conditions of its own. -/
import Derived.Test.YthbmhdlbphkljaaGreatDoorXo
import Derived.RangeFuncRecord
namespace Go.X
open Go
variable {P : Program} {E : Env}
variable {ρ : Rho} {h : H} {W : World} {a c : Operand → Value} {o : Oper}

def RVal (s : Sem Value) : Sem Next := do pure (.value (← s))
theorem run_RVal {s : Sem Value} {V : Value} {W W' : World} (e : s.run P W = .ok V W') : (RVal s).run P W = .ok (.value V) W' := by
  simp only [RVal, Sem.run_bind, e, Result.andThen_ok, Sem.run_pure]
theorem sliceData_sound {ats : Array TypeId} {ty : TypeId} (hH : HRel ρ h W) {x X v : Value} {h' : H} (hx : VRel ρ x X) (hr : sliceData h x = some (.val v h')) : ∃ V, (Builtin.unsafeSliceData_ ats ty #[X]).run P W = .ok V W ∧ VRel ρ v V ∧ h' = h := by
  unfold sliceData at hr
  split at hr
  · cases hr
    cases hx
    exact ⟨_, rfl, .pnil, rfl⟩
  · rename_i a n c
    rw [natBeq_eq] at hr
    by_cases e : c = 0
    · simp [e] at hr
    · simp only [e, decide_false] at hr
      cases hr
      cases hx with
      | slice b of _ _ A C r hrr hsr =>
        have hcC := hsr.cap
        have hC : C ≠ 0 := by omega
        have hA := hsr.addr (.inr (by omega))
        subst hA
        refine ⟨.pointer (some ⟨r.blk, r.base + of, none⟩), ?_, .ptr b of r hrr, rfl⟩
        cases C with
        | zero => exact absurd rfl hC
        | succ C => rfl
  · cases hr
theorem bytes_rel {ρ : Rho} : ∀ (cs NEW : List Value) (bs : List UInt8), bytesOf cs = some bs → VRels ρ cs NEW → ∃ ns : List Int, NEW = ns.map (Value.int .u8) ∧ bs = ns.map fun n => UInt8.ofNat n.toNat := by
  intro cs
  induction cs with
  | nil => intro NEW bs h1 h2; cases h1; cases h2; exact ⟨[], rfl, rfl⟩
  | cons v cs ih =>
    intro NEW bs h1 h2
    cases h2 with
    | cons _ V _ L hv hl =>
      obtain ⟨b, hb, h1⟩ := bind_some h1
      have h1' : Option.rec (motive := fun _ => Option (List UInt8)) none (fun r => some (b :: r)) (bytesOf cs) = some bs := h1
      cases hq : bytesOf cs with
      | none => rw [hq] at h1'; cases h1'
      | some r =>
        rw [hq] at h1'; cases h1'
        obtain ⟨ns, hn1, hn2⟩ := ih L r hq hl
        unfold byteOf at hb
        split at hb
        · rename_i m
          cases hb
          have := hv.int_inv
          subst this
          exact ⟨m :: ns, by rw [hn1]; rfl, by rw [hn2]; rfl⟩
        · cases hb
theorem run_loadBytesI {W : World} : ∀ (ns : List Int) (b o : Nat) (acc : ByteArray), (∀ (j : Nat) (n : Int), ns[j]? = some n → W.cell? ⟨b, o + j, none⟩ = some (.int .u8 n)) → (Go.loadBytes ⟨b, o, none⟩ acc ns.length).run P W = .ok ⟨⟨acc.data.toList ++ ns.map fun n => UInt8.ofNat n.toNat⟩⟩ W := by
  intro ns
  induction ns with
  | nil => intro b o acc _; simp [Go.loadBytes, Sem.run_pure]
  | cons n ns ih =>
    intro b o acc hc
    have h0 : W.cell? ⟨b, o, none⟩ = some (.int .u8 n) := by simpa using hc 0 n rfl
    have ih' := ih b (o + 1) (acc.push n.toNat.toUInt8) fun j m e => by rw [show o + 1 + j = o + (j + 1) by omega]; exact hc (j + 1) m (by simpa using e)
    have ha : (⟨b, o, none⟩ : Addr).add 1 = ⟨b, o + 1, none⟩ := rfl
    simp only [List.length_cons, Go.loadBytes, Sem.run_bind, Go.X.run_load h0, Result.andThen_ok, ha]
    rw [ih']
    congr 1
    apply ByteArray.ext
    simp [ByteArray.push]
theorem liesAt_at {e : TypeId} (hc : P.cellsOf e = 1) (count off n : Nat) (hn : off + n ≤ count) : liesAt P P.depth e count off e n = true := by
  have hd : P.depth = (2 * (P.types.size + Made.depth) + 1) + 1 := rfl
  rw [hd]
  simp only [liesAt, Bool.or_eq_true]
  left
  rw [hd]
  simp [rowAt, hc, hn, sameLayout, Nat.mod_one]
theorem freeze_heap (W : World) (a : Addr) (n B : Nat) (hB : B ≠ a.block) : (W.freeze a n).heap[B]? = W.heap[B]? := by
  unfold World.freeze
  split
  · rfl
  · show (W.heap.modify a.block _)[B]? = _
    rw [Array.getElem?_modify, if_neg (fun h => hB h.symm)]
theorem freeze_row (W : World) (b o n : Nat) (hn : n ≠ 0) {C : Array Value} {e : TypeId} {F : Nat × Nat} (h : W.heap[b]? = some (.cells C e F)) : ∃ F', (W.freeze ⟨b, o, none⟩ n).heap[b]? = some (.cells C e F') := by
  unfold World.freeze
  rw [if_neg hn]
  show ∃ F', (W.heap.modify b _)[b]? = _
  rw [Array.getElem?_modify, if_pos rfl, h]
  exact ⟨_, rfl⟩
theorem unsafeString_none {ats : Array TypeId} {ty : TypeId} {y : Value} : Builtin.unsafeString_ ats ty #[.pointer none, y] = (do
    let n ← asInt y
    let some pt := ats[0]? | stuck "unsafe.String: no argument types"
    if n < 0 then runtimePanic (.error "unsafe.String: len out of range")
    if n > IntKind.i64.max then unsupported (.unsafePointer "String: a length above the largest int")
    if n = 0 then pure (.string .empty)
    else runtimePanic (.error "unsafe.String: ptr is nil and len is not zero")) := rfl
theorem unsafeString_some {ats : Array TypeId} {ty : TypeId} {a : Addr} {y : Value} : Builtin.unsafeString_ ats ty #[.pointer (some a), y] = (do
    let n ← asInt y
    let some pt := ats[0]? | stuck "unsafe.String: no argument types"
    if n < 0 then runtimePanic (.error "unsafe.String: len out of range")
    if n > IntKind.i64.max then unsupported (.unsafePointer "String: a length above the largest int")
    if n = 0 then pure (.string .empty)
    else if ← variablesAt a (← elemOf pt) n.toNat then do
      let s ← Go.loadBytes a .empty n.toNat
      freeze a n.toNat
      pure (.string s)
    else unsupported (.unsafePointer "String: not so many bytes at ptr")) := rfl
theorem unsafeStr_sound (hE : EnvOk P E) (hH : HRel ρ h W) {ats : Array TypeId} {ty : TypeId} {p n X Y v : Value} {h' : H} (hp : VRel ρ p X) (hn : VRel ρ n Y) (hr : unsafeStr E h ats.toList p n = some (.val v h')) :
    ∃ W', (Builtin.unsafeString_ ats ty #[X, Y]).run P W = .ok v W' ∧ (∃ s, v = .string s) ∧ HRel ρ h' W' ∧ Ext ρ h W ρ h' W' := by
  unfold unsafeStr at hr
  split at hr
  · rename_i p n
    obtain ⟨pt, hpt, hr1⟩ := bind_some hr
    clear hr
    rw [nthA_eq, Array.getElem?_toList] at hpt
    have hY : Y = .int .i64 (n : Int) := by have := hn.int_inv; exact this
    subst hY
    have hmax : IntKind.i64.max = 9223372036854775807 := rfl
    rw [natBeq_eq] at hr1
    by_cases e0 : n = 0
    · subst e0
      simp only [decide_true] at hr1
      cases hr1
      refine ⟨W, ?_, ⟨_, rfl⟩, hH, Ext.refl _ _ _⟩
      cases p with
      | none =>
        cases hp
        rw [unsafeString_none]
        simp [hpt, asInt, asIntOf, hmax]; rfl
      | some a =>
        cases hp with
        | ptr b o r hrr =>
          rw [unsafeString_some]
          simp [hpt, asInt, asIntOf, hmax]; rfl
    · simp only [e0, decide_false] at hr1
      cases p with
      | none => cases hr1
      | some a =>
        cases hp with
        | ptr b o r hrr =>
          have hr2 : strAt E h pt ⟨b, o, none⟩ n = some (.val v h') := hr1
          obtain ⟨u, hu, hr3⟩ := bind_some hr2
          have hU := hE.underP hu
          split at hr3
          · rename_i e
            obtain ⟨sz, hsz, hr4⟩ := bind_some hr3
            obtain ⟨x, hx, hr5⟩ := bind_some hr4
            obtain ⟨cs, hcs, hr6⟩ := bind_some hr5
            obtain ⟨l, hl, hr7⟩ := bind_some hr6
            obtain ⟨hcond, hr8⟩ := rec_some hr7
            cases hr8
            simp only [natBeq_eq, natBle_eq, Bool.and_eq_true, Bool.not_eq_true', decide_eq_true_eq] at hcond
            obtain ⟨⟨⟨c1, c2⟩, c3⟩, c4⟩ := hcond
            have hget := H.row_get hx
            obtain ⟨C, F, k1, k2, k3, k4, k5, k6, k7⟩ := hH.obj b _ r hget hrr
            obtain ⟨t1, t2⟩ := takeN_eq _ _ _ hcs
            rw [dropN_eq] at t1 t2
            have hof : (⟨b, o, none⟩ : Addr).off = o := rfl
            rw [hof] at t1 t2
            have hlen : o + n ≤ x.cs.length := by rw [List.length_drop] at t2; omega
            -- the bytes
            have hrel : ∃ NEW, VRels ρ cs NEW ∧ NEW.length = n ∧ ∀ (j : Nat) (V : Value), NEW[j]? = some V → C[r.base + o + j]? = some V := by
              refine ⟨(C.toList.drop (r.base + o)).take n, VRels.of_get ?_ ?_, ?_, ?_⟩
              · rw [t1]; simp; omega
              · intro i w e1
                rw [t1, List.getElem?_take] at e1
                split at e1
                · rename_i hi
                  rw [List.getElem?_drop] at e1
                  obtain ⟨V, hV, hv⟩ := k6 _ _ e1
                  refine ⟨V, ?_, hv⟩
                  rw [List.getElem?_take, if_pos hi, List.getElem?_drop, Array.getElem?_toList, ← hV]
                  congr 1; omega
                · cases e1
              · simp; omega
              · intro j V e1
                rw [List.getElem?_take] at e1
                split at e1
                · rw [List.getElem?_drop, Array.getElem?_toList] at e1
                  exact e1
                · cases e1
            obtain ⟨NEW, q1, q2, q3⟩ := hrel
            obtain ⟨ns, n1, n2⟩ := bytes_rel cs NEW l hl q1
            have hnl : ns.length = n := by rw [← q2, n1, List.length_map]
            have hcell : ∀ (j : Nat) (m : Int), ns[j]? = some m → W.cell? ⟨r.blk, r.base + o + j, none⟩ = some (.int .u8 m) := by
              intro j m e1
              have := q3 j (.int .u8 m) (by rw [n1, List.getElem?_map, e1]; rfl)
              simp [World.cell?, k1, this]
            have hlb := run_loadBytesI (P := P) (W := W) ns r.blk (r.base + o) .empty hcell
            rw [hnl] at hlb
            have hco : P.cellsOf e = 1 := by
              obtain ⟨i, hi, hd⟩ := bind_some hsz
              cases hd
              obtain ⟨j, hj, hjs, _⟩ := hE.info e i hi
              unfold Program.cellsOf
              rw [hj]; show j.size = 1; rw [hjs]; exact c1
            have hlies := liesAt_at (P := P) hco C.size (r.base + o) n (by omega)
            obtain ⟨F', hF'⟩ := freeze_row W r.blk (r.base + o) n e0 k1
            have h63 : ¬ (9223372036854775807 : Int) < (n : Int) := by omega
            have hneg : ¬ (n : Int) < 0 := by omega
            have hl2 : l.toArray = (⟨ns.map fun n => UInt8.ofNat n.toNat⟩ : Array UInt8) := by rw [n2]
            refine ⟨W.freeze ⟨r.blk, r.base + o, none⟩ n, ?_, ⟨_, rfl⟩, ?_, ?_⟩
            · subst c2
              rw [unsafeString_some]
              simp [hpt, asInt, asIntOf, hmax, h63, hneg, e0, variablesAt, shape, Sem.run, World.shape?, k1, elemOf, run_under hU, hlies, hlb, hco, freeze, n2]
            · exact hH.putA b _ _ r hget c4 hrr (by unfold World.freeze; split <;> simp) (fun B hB => freeze_heap W _ n B hB) ⟨C, F', hF', k2, k3, k4, k5, k6, fun q => by cases q⟩
            · refine Ext.put b _ _ r hget c4 hrr (by unfold World.freeze; split <;> simp) (fun B hB => freeze_heap W _ n B hB) ?_ ?_ ?_ <;> (unfold World.freeze; split <;> rfl)
          · cases hr3
  · cases hr
theorem minMax_sound {ats : Array TypeId} {ty : TypeId} {least : Bool} {x y X Y v : Value} {h' : H} (hx : VRel ρ x X) (hy : VRel ρ y Y) (hr : minMax h least x y = some (.val v h')) :
    ∃ V, (if least then Builtin.min_ ats ty #[X, Y] else Builtin.max_ ats ty #[X, Y]).run P W = .ok V W ∧ VRel ρ v V ∧ h' = h := by
  unfold minMax at hr
  split at hr
  · rename_i k a k' b
    cases hr
    have hX := hx.int_inv
    have hY := hy.int_inv
    subst hX; subst hY
    refine ⟨_, ?_, .int _ _, rfl⟩
    cases least with
    | true =>
      show (Builtin.min_ ats ty #[.int k a, .int k' b]).run P W = _
      rw [show Builtin.min_ ats ty #[.int k a, .int k' b] = pure (.int k (if b < a then b else a)) from rfl, Sem.run_pure]
      show _ = Result.ok (Value.int k (Bool.rec (motive := fun _ => Int) b a (intBle a b))) W
      rw [intBle_eq]
      by_cases q : a ≤ b
      · rw [if_neg (by omega)]; simp [q]
      · rw [if_pos (by omega)]; simp [q]
    | false =>
      show (Builtin.max_ ats ty #[.int k a, .int k' b]).run P W = _
      rw [show Builtin.max_ ats ty #[.int k a, .int k' b] = pure (.int k (if a < b then b else a)) from rfl, Sem.run_pure]
      show _ = Result.ok (Value.int k (Bool.rec (motive := fun _ => Int) b a (intBle b a))) W
      rw [intBle_eq]
      by_cases q : b ≤ a
      · rw [if_neg (by omega)]; simp [q]
      · rw [if_pos (by omega)]; simp [q]
  · cases hr
theorem builtinR_sound (hE : EnvOk P E) (hH : HRel ρ h W) (b : Builtin) (ats : Array TypeId) (ty : TypeId) (consts : Array Bool) (xs : List Value) (XS : List Value) (hx : VRels ρ xs XS) {v : Value} {h' : H} (hr : builtinR E h b ats xs = some (.val v h')) :
    ∃ ρ' W' V, (Go.builtin b ats ty consts XS.toArray).run P W = .ok (.value V) W' ∧ VRel ρ' v V ∧ HRel ρ' h' W' ∧ Ext ρ h W ρ' h' W' := by
  unfold builtinR at hr
  split at hr
  · rename_i s x
    obtain ⟨st, hst, hr1⟩ := bind_some hr
    cases hx with
    | cons _ S _ L hs hl =>
      cases hl with
      | cons _ X _ L2 hx2 hl2 =>
        cases hl2
        obtain ⟨ρ', W', V, k0, k1, k2, k3⟩ := append_sound (P := P) hE hH ats ty st hst hs hx2 hr1
        exact ⟨ρ', W', V, run_RVal k0, k1, k2, k3⟩
  · rename_i d s
    obtain ⟨st, hst, hr1⟩ := bind_some hr
    cases hx with
    | cons _ S _ L hs hl =>
      cases hl with
      | cons _ X _ L2 hx2 hl2 =>
        cases hl2
        obtain ⟨W', k0, k1, k2, k3⟩ := copyV_sound (P := P) hE hH ats ty st hst hs hx2 hr1
        have hv : ∃ n, v = .int .i64 n := by
          clear k0 k1 k2 k3
          obtain ⟨u, hu, hr2⟩ := bind_some hr1
          split at hr2
          · obtain ⟨sz, _, hr3⟩ := bind_some hr2
            obtain ⟨sl, _, hr4⟩ := bind_some hr3
            obtain ⟨cs, _, hr5⟩ := bind_some hr4
            split at hr5
            · cases hz : Nat.beq (Nat.min sl _ * sz) 0 with
              | true => rw [hz] at hr5; cases hr5; exact ⟨_, rfl⟩
              | false =>
                rw [hz] at hr5
                obtain ⟨_, _, e⟩ := map_some hr5
                cases e; exact ⟨_, rfl⟩
            · cases hr5; exact ⟨_, rfl⟩
          · cases hr2
        obtain ⟨n, rfl⟩ := hv
        exact ⟨ρ, W', _, run_RVal k0, .int _ _, k2, k3⟩
  · rename_i x
    obtain ⟨t, ht, hr1⟩ := bind_some hr
    obtain ⟨u, hu, hr2⟩ := bind_some hr1
    have hU := hE.underP hu
    rw [nthA_eq, Array.getElem?_toList] at ht
    cases hx with
    | cons _ X _ L hxx hl =>
      cases hl
      split at hr2
      · cases hr2
        have := hxx.str_inv
        subst this
        refine ⟨ρ, W, _, run_RVal ?_, .int _ _, hH, Ext.refl _ _ _⟩
        simp [Builtin.len_, ht, run_under hU, goInt, len_eq]
      · cases hr2
        refine ⟨ρ, W, _, run_RVal ?_, .int _ _, hH, Ext.refl _ _ _⟩
        simp [Builtin.len_, ht, run_under hU, goInt, len_eq]
      · cases hr2
        cases hxx
        · refine ⟨ρ, W, _, run_RVal ?_, .int _ _, hH, Ext.refl _ _ _⟩
          simp [Builtin.len_, ht, run_under hU, goInt, len_eq]
        · refine ⟨ρ, W, _, run_RVal ?_, .int _ _, hH, Ext.refl _ _ _⟩
          simp [Builtin.len_, ht, run_under hU, goInt, len_eq]
      · cases hr2
  · cases hx with
    | cons _ X _ L hs hl =>
      cases hl
      obtain ⟨V, k0, k1, rfl⟩ := sliceData_sound (P := P) (ats := ats) (ty := ty) hH hs hr
      exact ⟨ρ, W, V, run_RVal k0, k1, hH, Ext.refl _ _ _⟩
  · cases hx with
    | cons _ X _ L hs hl =>
      cases hl with
      | cons _ Y _ L2 hy hl2 =>
        cases hl2
        obtain ⟨V, k0, k1, rfl⟩ := minMax_sound (P := P) (W := W) (ats := ats) (ty := ty) hs hy hr
        exact ⟨ρ, W, V, run_RVal k0, k1, hH, Ext.refl _ _ _⟩
  · cases hx with
    | cons _ X _ L hs hl =>
      cases hl with
      | cons _ Y _ L2 hy hl2 =>
        cases hl2
        obtain ⟨V, k0, k1, rfl⟩ := minMax_sound (P := P) (W := W) (ats := ats) (ty := ty) hs hy hr
        exact ⟨ρ, W, V, run_RVal k0, k1, hH, Ext.refl _ _ _⟩
  · cases hx with
    | cons _ X _ L hs hl =>
      cases hl with
      | cons _ Y _ L2 hy hl2 =>
        cases hl2
        obtain ⟨W', k0, ⟨s, rfl⟩, k1, k2⟩ := unsafeStr_sound (P := P) (ty := ty) hE hH hs hy hr
        exact ⟨ρ, W', _, run_RVal k0, .string s, k1, k2⟩
  · cases hr

def EnterOk (P : Program) (ρ : Rho) (W : World) (f : FuncId) (args : List Value) (s : Sem Next) : Prop :=
  ∃ ARGS : List Value, VRels ρ args ARGS ∧ (∀ (fd : Func) (body : Code), P.funcs[f]? = some fd → fd.body = some body → s.run P W = .ok (.enter f ARGS.toArray) W) ∧
    ∀ (fd : Func) (e : Array Value → Sem Value) (V : Value) (W' : World), P.funcs[f]? = some fd → fd.body = none → Extern.findNext fd = none → Extern.find fd = some e → (e ARGS.toArray).run P W = .ok V W' → s.run P W = .ok (.value V) W'
def ROk (P : Program) (ρ : Rho) (h : H) (W : World) (r : R) (s : Sem Next) : Prop :=
  match r with
  | .val v h' => OpOk P ρ h W v h' s
  | .enter f args => EnterOk P ρ W f args s
  | .round l args => ∃ (st : LoopState) (pd : Option Code) (f0 : FuncId) (tm : B) (ps : List Tmp) (as bd : Code) (d0 : Nat) (ri : RI) (T : Array Value) (fn : FuncId) (d : Nat) (ARGS : List Value),
      h.get l = some (.loop st pd f0 tm ps as bd d0) ∧ ρ l = some ri ∧ TRel ρ tm T ∧ W.heap[ri.blk]? = some (.loop { state := st, pending := pd, fn, tmps := T, params := ps.toArray, assign := as, body := bd, defers := d }) ∧
      VRels ρ args ARGS ∧ args.length = ps.length ∧ s.run P W = .ok (.round ri.blk fn ((ps.toArray.zip ARGS.toArray).foldl (fun tmps (t, a) => tmps.setIfInBounds t a) T) as bd) W
theorem findB_spec (c : Nat) : ∀ (l : List UInt8) (i : Nat), (∃ j, ∃ h : j < l.length, l[j].toNat = c ∧ (∀ k (hk : k < l.length), k < j → l[k].toNat ≠ c) ∧ findB c l i = ((i + j : Nat) : Int)) ∨ ((∀ k (hk : k < l.length), l[k].toNat ≠ c) ∧ findB c l i = -1) := by
  intro l
  induction l with
  | nil => intro i; exact .inr ⟨fun k hk => by simp at hk, rfl⟩
  | cons b l ih =>
    intro i
    show (∃ j, _) ∨ (_ ∧ (bif Nat.beq b.toNat c then (i : Int) else findB c l (i + 1)) = -1)
    rw [natBeq_eq]
    by_cases e : b.toNat = c
    · refine .inl ⟨0, by simp, e, fun k _ hk => by omega, ?_⟩
      show (bif Nat.beq b.toNat c then (i : Int) else findB c l (i + 1)) = _
      rw [natBeq_eq]; simp [e]
    · rcases ih (i + 1) with ⟨j, hj, h1, h2, h3⟩ | ⟨h1, h2⟩
      · refine .inl ⟨j + 1, by simpa using hj, by simpa using h1, ?_, ?_⟩
        · intro k hk hkj
          cases k with
          | zero => exact e
          | succ k => exact h2 k (by simpa using hk) (by omega)
        · show (bif Nat.beq b.toNat c then (i : Int) else findB c l (i + 1)) = _
          rw [natBeq_eq]
          simp only [e, decide_false, cond_false]
          rw [h3]; omega
      · refine .inr ⟨?_, by simp [e, h2]⟩
        intro k hk
        cases k with
        | zero => exact e
        | succ k => exact h1 k (by simpa using hk)
theorem indexByte_eq {P : Program} {W : World} (l : List UInt8) (c : Nat) : (Extern.BytealgIndexByte.indexByte #[.string ⟨⟨l⟩⟩, .int .u8 (Int.ofNat c)]).run P W = .ok (.int .i64 (findB (Nat.mod c 256) l 0)) W := by
  have hc : (Int.ofNat c).toNat.toUInt8.toNat = Nat.mod c 256 := by
    show (UInt8.ofNat c).toNat = c % 256
    simp
  have hdef : Extern.BytealgIndexByte.indexByte #[.string ⟨⟨l⟩⟩, .int .u8 (Int.ofNat c)] = (do
    let b ← (pure ⟨⟨l⟩⟩ : Sem ByteArray)
    let c ← (pure (Int.ofNat c).toNat.toUInt8 : Sem UInt8)
    match (List.range b.size).find? fun i => b[i]! == c with
    | some i => pure (goInt i)
    | none => pure (goInt (-1))) := rfl
  rw [hdef]
  simp only [Sem.run_bind, Sem.run_pure, Result.andThen_ok]
  have hsz : (⟨⟨l⟩⟩ : ByteArray).size = l.length := rfl
  have hget : ∀ i (h : i < l.length), ((⟨⟨l⟩⟩ : ByteArray)[i]!) = l[i] := by
    intro i h
    rw [getElem!_pos (⟨⟨l⟩⟩ : ByteArray) i h]
    rfl
  rw [hsz]
  rcases findB_spec (Nat.mod c 256) l 0 with ⟨j, hj, h1, h2, h3⟩ | ⟨h1, h2⟩
  · have : (List.range l.length).find? (fun i => (⟨⟨l⟩⟩ : ByteArray)[i]! == (Int.ofNat c).toNat.toUInt8) = some j := by
      rw [List.find?_range_eq_some]
      refine ⟨?_, by simpa using hj, ?_⟩
      · rw [hget j hj]
        simp only [beq_iff_eq]
        exact UInt8.toNat_inj.1 (by rw [h1, hc])
      · intro k hk
        rw [hget k (by omega)]
        simp only [Bool.not_eq_true', beq_eq_false_iff_ne, ne_eq]
        intro q
        exact h2 k (by omega) hk (by rw [q, hc])
    rw [this, h3]
    simp [Sem.run_pure, goInt]
  · have : (List.range l.length).find? (fun i => (⟨⟨l⟩⟩ : ByteArray)[i]! == (Int.ofNat c).toNat.toUInt8) = none := by
      rw [List.find?_eq_none]
      intro k hk
      have hk' : k < l.length := by simpa using hk
      rw [hget k hk']
      simp only [beq_iff_eq]
      intro q
      exact h1 k hk' (by rw [q, hc])
    rw [this, h2]
    simp [Sem.run_pure, goInt]
theorem extV_sound {f : FuncId} {k : Nat} {fd : Func} {e : Array Value → Sem Value} (h0 : k = 0 → e = Extern.AbiNoEscape.same) (h2 : k = 2 → e = Extern.BytealgIndexByte.indexByte) {args ARGS : List Value} {v : Value} (hA : VRels ρ args ARGS) (hr : extV k args = some v) : ∃ V, (e ARGS.toArray).run P W = .ok V W ∧ VRel ρ v V := by
  unfold extV at hr
  split at hr
  · cases hr
    have := h0 rfl
    subst this
    cases hA with
    | cons _ X _ L hx hl => cases hl; exact ⟨X, rfl, hx⟩
  · rename_i s c
    cases hr
    have := h2 rfl
    subst this
    cases hA with
    | cons _ X _ L hx hl =>
      cases hl with
      | cons _ Y _ L2 hy hl2 =>
        cases hl2
        cases hx
        have := hy.int_inv
        subst this
        exact ⟨_, indexByte_eq s.data.toList c, .int _ _⟩
  · cases hr
theorem op_call_sound (hE : EnvOk P E) (hH : HRel ρ h W) (cl : Call) (ho : o.op = .call cl) (hx : ∀ x ∈ cl.args.toList, VRel ρ (a x) (c x)) (hf : ∀ f, cl.callee = .value f → VRel ρ (a f) (c f)) {r : R} (hr : op_call E h a cl = some r) : ROk P ρ h W r (execOp c o) := by
  unfold op_call at hr
  have hargs := mapV_rel (ρ := ρ) (a := a) (c := c) cl.args.toList hx
  split at hr
  · rename_i b hb
    have hv : ∃ v h', r = .val v h' := by
      clear hargs
      unfold builtinR at hr
      split at hr
      · obtain ⟨_, _, e⟩ := bind_some hr
        obtain ⟨u, _, e⟩ := bind_some e
        split at e
        · obtain ⟨_, _, e⟩ := bind_some e
          obtain ⟨zs, _, e⟩ := bind_some e
          cases zs with
          | true => cases e
          | false =>
            obtain ⟨m, _, e⟩ := bind_some (show Option.bind _ _ = _ from e)
            obtain ⟨nw, _, e⟩ := bind_some e
            revert e
            cases Nat.ble _ _ with
            | false =>
              intro e
              obtain ⟨_, _, e⟩ := bind_some (show Option.bind _ _ = _ from e)
              obtain ⟨_, _, e⟩ := bind_some e
              obtain ⟨_, e⟩ := rec_some e
              obtain ⟨_, _, e⟩ := bind_some e
              obtain ⟨_, _, e⟩ := bind_some e
              obtain ⟨_, _, e⟩ := bind_some e
              cases e; exact ⟨_, _, rfl⟩
            | true =>
              intro e
              have e' : appIn h _ _ _ _ _ _ = some r := e
              unfold appIn at e'
              split at e'
              · revert e'
                cases Nat.beq _ _ with
                | false =>
                  intro e'
                  obtain ⟨_, _, e⟩ := bind_some (show Option.bind _ _ = _ from e')
                  cases e; exact ⟨_, _, rfl⟩
                | true => intro e'; cases e'; exact ⟨_, _, rfl⟩
              · cases e'; exact ⟨_, _, rfl⟩
        · cases e
      · obtain ⟨_, _, e⟩ := bind_some hr
        obtain ⟨u, hu, hr2⟩ := bind_some e
        split at hr2
        · obtain ⟨sz, _, hr3⟩ := bind_some hr2
          obtain ⟨sl, _, hr4⟩ := bind_some hr3
          obtain ⟨cs, _, hr5⟩ := bind_some hr4
          split at hr5
          · revert hr5
            cases hz : Nat.beq (Nat.min sl _ * sz) 0 with
            | true => intro hr5; cases hr5; exact ⟨_, _, rfl⟩
            | false =>
              intro hr5
              obtain ⟨_, _, e⟩ := map_some (show Option.map _ _ = _ from hr5)
              cases e; exact ⟨_, _, rfl⟩
          · cases hr5; exact ⟨_, _, rfl⟩
        · cases hr2
      · obtain ⟨_, _, e⟩ := bind_some hr
        obtain ⟨u, hu, hr2⟩ := bind_some e
        split at hr2 <;> first | (cases hr2; exact ⟨_, _, rfl⟩) | cases hr2
      · have hr' : sliceData h _ = some r := hr
        unfold sliceData at hr'
        split at hr'
        · cases hr'; exact ⟨_, _, rfl⟩
        · revert hr'
          cases Nat.beq _ 0 with
          | true => intro q; cases q
          | false => intro q; cases q; exact ⟨_, _, rfl⟩
        · cases hr'
      · have hr' : minMax h true _ _ = some r := hr
        unfold minMax at hr'
        split at hr' <;> first | (cases hr'; exact ⟨_, _, rfl⟩) | cases hr'
      · have hr' : minMax h false _ _ = some r := hr
        unfold minMax at hr'
        split at hr' <;> first | (cases hr'; exact ⟨_, _, rfl⟩) | cases hr'
      · have hr' : unsafeStr E h _ _ _ = some r := hr
        unfold unsafeStr at hr'
        split at hr'
        · rename_i p n hpn
          obtain ⟨pt, _, h1⟩ := bind_some hr'
          revert h1
          cases Nat.beq _ 0 with
          | true => intro q; cases q; exact ⟨_, _, rfl⟩
          | false =>
            intro q
            cases p with
            | none => cases q
            | some a =>
              have q' : strAtA E h pt a n = some r := q
              unfold strAtA at q'
              split at q'
              · obtain ⟨u, _, h2⟩ := bind_some q'
                split at h2
                · obtain ⟨_, _, h3⟩ := bind_some h2
                  obtain ⟨_, _, h4⟩ := bind_some h3
                  obtain ⟨_, _, h5⟩ := bind_some h4
                  obtain ⟨_, _, h6⟩ := bind_some h5
                  obtain ⟨_, h7⟩ := rec_some h6
                  cases h7; exact ⟨_, _, rfl⟩
                · cases h2
              · cases q'
        · cases hr'
      · cases hr
    obtain ⟨v, h', rfl⟩ := hv
    obtain ⟨ρ', W', V, k0, k1, k2, k3⟩ := builtinR_sound (P := P) hE hH b cl.argTypes o.type (cl.args.map fun | .const _ => true | _ => false) _ _ hargs hr
    refine ⟨ρ', W', V, .value V, ?_, .inl rfl, k1, k2, k3⟩
    have he : (cl.args.toList.map c).toArray = cl.args.map c := Array.ext' (by simp)
    rw [he] at k0
    simp only [execOp, ho, resolve, hb, Sem.run_bind, Sem.run_pure, Result.andThen_ok, Go.invoke]
    exact k0
  · rename_i f hb
    have hff := hf f hb
    revert hff hr
    generalize a f = p
    generalize hc : c f = q
    intro hr hff
    split at hr
    · rename_i fn first captured
      cases hff with
      | func _ F _ A _ C hfn ha hcc =>
        unfold callTarget at hr
        split at hr
        · rename_i g
          cases hfn
          have hr' : r = .enter g (app (app first.toList (mapV a cl.args.toList)) captured.toList) ∨ ∃ k v, findX g E.xs = some k ∧ k ≠ 3 ∧ extV k (app (app first.toList (mapV a cl.args.toList)) captured.toList) = some v ∧ r = .val v h := by
            unfold enterF at hr
            split at hr
            · cases hr; exact .inl rfl
            · rename_i k hk
              split at hr
              · cases hr; exact .inl rfl
              · rename_i hk3
                obtain ⟨v, hv, hvr⟩ := map_some hr
                exact .inr ⟨k, v, hk, hk3, hv, hvr.symm⟩
          rcases hr' with hr' | ⟨k, v, hk, hk3, hxl, hr'⟩
          rotate_left
          · subst hr'
            obtain ⟨fd, e, hfd, hbody, hn, he, he0, he2⟩ := hE.ext g k hk hk3
            have hA : VRels ρ (app (app first.toList (mapV a cl.args.toList)) captured.toList) ((A.toList ++ cl.args.toList.map c) ++ C.toList) := by
              rw [app_eq, app_eq]
              exact (ha.append hargs).append hcc
            have e2 : ((A.toList ++ cl.args.toList.map c) ++ C.toList).toArray = A ++ (cl.args.map c ++ C) := Array.ext' (by simp)
            obtain ⟨V, hrun, hv⟩ := extV_sound (P := P) (W := W) (f := g) (fd := fd) he0 he2 hA hxl
            rw [e2] at hrun
            refine OpOk.pure hH ?_ hv
            have hnum := hE.num g fd hfd
            simp only [execOp, ho, resolve, hb, hc, Deferred.ofValue, Sem.run_bind, Sem.run_pure, Result.andThen_ok, Go.invoke]
            unfold callFunc
            simp only [Sem.run_bind, run_program, Result.andThen_ok, hfd]
            simp [hnum, hbody, Sem.run_pure, hn, he, mark, Sem.run_bind, Sem.run, Array.append_assoc, hrun]
          subst hr'
          refine ⟨(A.toList ++ cl.args.toList.map c) ++ C.toList, ?_, ?_, ?_⟩
          · rw [app_eq, app_eq]
            exact (ha.append hargs).append hcc
          rotate_left
          · intro fd e V W' hfd hbody hn he hrun
            simp only [execOp, ho, resolve, hb, hc, Deferred.ofValue, Sem.run_bind, Sem.run_pure, Result.andThen_ok, Go.invoke]
            have hnum := hE.num g fd hfd
            have e2 : ((A.toList ++ cl.args.toList.map c) ++ C.toList).toArray = A ++ cl.args.map c ++ C := Array.ext' (by simp)
            rw [e2, Array.append_assoc] at hrun
            unfold callFunc
            simp only [Sem.run_bind, run_program, Result.andThen_ok, hfd]
            simp [hnum, hbody, Sem.run_pure, hn, he, mark, Sem.run_bind, Sem.run, hrun, Array.append_assoc]
          · intro fd body hfd hbody
            simp only [execOp, ho, resolve, hb, hc, Deferred.ofValue, Sem.run_bind, Sem.run_pure, Result.andThen_ok, Go.invoke]
            have hnum := hE.num g fd hfd
            unfold callFunc
            simp only [Sem.run_bind, run_program, Result.andThen_ok, hfd]
            simp [hnum, hbody, Sem.run_pure]
        · rename_i l
          split at hr
          · rename_i st pd f0 tm ps as bd d0 hl
            obtain ⟨hbq, hr2⟩ := bif_some hr
            rw [natBeq_eq] at hbq
            have hlen : (app first.toList (mapV a cl.args.toList)).length = ps.length := by simpa [len_eq] using hbq
            cases hr2
            cases hfn with
            | yield _ ri hri =>
              obtain ⟨T, fn, d, k1, k2⟩ := hH.obj l _ ri hl hri
              have hA : VRels ρ (app first.toList (mapV a cl.args.toList)) (A.toList ++ cl.args.toList.map c) := by
                rw [app_eq]; exact ha.append hargs
              refine ⟨st, pd, f0, tm, ps, as, bd, d0, ri, T, fn, d, _, hl, hri, k1, k2, hA, hlen, ?_⟩
              have hsz : (A.toList ++ cl.args.toList.map c).toArray.size = ps.toArray.size := by
                have := hA.length; simp only [List.size_toArray]; omega
              have hy := run_yield (P := P) k2 hsz
              simp only [execOp, ho, resolve, hb, hc, Deferred.ofValue, Sem.run_bind, Sem.run_pure, Result.andThen_ok, Go.invoke]
              have e2 : (A.toList ++ cl.args.toList.map c).toArray = A ++ cl.args.map c := Array.ext' (by simp)
              rw [e2] at hy ⊢
              exact hy
          · cases hr
        · cases hr
    · cases hr
  · cases hr

theorem val_of {x : Option R} {r : R} (h : x = some r) (hx : ∀ r, x = some r → ∃ v h', r = .val v h') : ∃ v h', r = .val v h' := hx r h
/-- an operation, whatever it comes to -/
theorem op_sound (hE : EnvOk P E) (hH : HRel ρ h W) (hx : ∀ x ∈ o.op.operands.toList, VRel ρ (a x) (c x)) {r : R} (hr : opR o.op E h a = some r) : ROk P ρ h W r (execOp c o) := by
  have lift : ∀ {x : Option R}, x = some r → (∀ r, x = some r → ∃ v h', r = .val v h') → (∀ v h', x = some (.val v h') → OpOk P ρ h W v h' (execOp c o)) → ROk P ρ h W r (execOp c o) := by
    intro x hx h1 h2
    obtain ⟨v, h', rfl⟩ := h1 r hx
    exact h2 v h' hx
  have litv : ∀ {x : Option Value} {r : R}, lit x h = some r → ∃ v h', r = .val v h' := by
    intro x r e
    obtain ⟨v, _, e⟩ := map_some e
    exact ⟨_, _, e.symm⟩
  cases ho : o.op with
  | move x =>
    rw [ho] at hr hx; cases hr
    exact op_move_sound hH x (.inl ho) (hx x (by simp [Op.operands]))
  | assign x =>
    rw [ho] at hr hx; cases hr
    exact op_move_sound hH x (.inr ho) (hx x (by simp [Op.operands]))
  | pick x y z =>
    rw [ho] at hr hx
    refine lift (show op_pick E h a x y z = some r from hr) ?_ fun v h' e => op_pick_sound hH x y z ho (hx x (by simp [Op.operands])) (hx y (by simp [Op.operands])) (hx z (by simp [Op.operands])) e
    intro r e; obtain ⟨_, _, e⟩ := bind_some e; cases e; exact ⟨_, _, rfl⟩
  | alloc e =>
    rw [ho] at hr hx
    refine lift (show op_alloc E h a e = some r from hr) ?_ fun v h' q => op_alloc_sound hE hH e ho q
    intro r e; obtain ⟨_, _, e⟩ := bind_some e; cases e; exact ⟨_, _, rfl⟩
  | box e x =>
    rw [ho] at hr hx
    refine lift (show op_box E h a e x = some r from hr) ?_ fun v h' q => op_box_sound hH e x ho (hx x (by simp [Op.operands])) q
    intro r e; obtain ⟨_, _, e⟩ := bind_some e; cases e; exact ⟨_, _, rfl⟩
  | build t parts =>
    rw [ho] at hr hx
    refine lift (show op_build E h a t parts = some r from hr) ?_ fun v h' q => op_build_sound hE hH t parts ho (fun x hx' => hx x.2 (by simp only [Op.operands, List.toList_toArray]; exact List.mem_map_of_mem hx')) q
    intro r e
    obtain ⟨_, _, e⟩ := bind_some e
    obtain ⟨_, _, e⟩ := bind_some e
    split at e
    · obtain ⟨_, _, e⟩ := bind_some e; obtain ⟨_, _, e⟩ := bind_some e; cases e; exact ⟨_, _, rfl⟩
    · obtain ⟨_, _, e⟩ := bind_some e; obtain ⟨_, _, e⟩ := bind_some e; cases e; exact ⟨_, _, rfl⟩
    · cases e
  | buildSlice t n parts =>
    rw [ho] at hr hx
    refine lift (show op_buildSlice E h a t n parts = some r from hr) ?_ fun v h' q => op_buildSlice_sound hE hH t n parts ho (fun x hx' => hx x.2 (by simp only [Op.operands, List.toList_toArray]; exact List.mem_map_of_mem hx')) q
    intro r e
    obtain ⟨_, _, e⟩ := bind_some e
    split at e
    · obtain ⟨_, _, e⟩ := bind_some e; obtain ⟨_, _, e⟩ := bind_some e; obtain ⟨_, _, e⟩ := bind_some e
      obtain ⟨_, e⟩ := bif_some e
      cases e; exact ⟨_, _, rfl⟩
    · cases e
  | load t x =>
    rw [ho] at hr hx
    refine lift (show op_load E h a t x = some r from hr) ?_ fun v h' q => op_load_sound hE hH t x ho (hx x (by simp [Op.operands])) q
    intro r e; obtain ⟨_, _, e⟩ := bind_some e; exact litv e
  | store t x y =>
    rw [ho] at hr hx
    refine lift (show op_store E h a t x y = some r from hr) ?_ fun v h' q => op_store_sound hE hH t x y ho (hx x (by simp [Op.operands])) (hx y (by simp [Op.operands])) q
    intro r e; obtain ⟨_, _, e⟩ := bind_some e; obtain ⟨_, _, e⟩ := map_some e; exact ⟨_, _, e.symm⟩
  | nilCheck x =>
    rw [ho] at hr hx
    refine lift (show op_nilCheck E h a x = some r from hr) ?_ fun v h' q => op_nilCheck_sound hH x ho (hx x (by simp [Op.operands])) q
    intro r e; unfold op_nilCheck at e
    split at e <;> first | (cases e; exact ⟨_, _, rfl⟩) | cases e
  | binOp op t x y yt =>
    rw [ho] at hr hx
    exact lift (show op_binOp E h a op t x y = some r from hr) (fun r e => litv e) fun v h' q => op_binOp_sound hE hH op t yt x y ho (hx x (by simp [Op.operands])) (hx y (by simp [Op.operands])) q
  | unOp op t x =>
    rw [ho] at hr hx
    exact lift (show op_unOp E h a op x = some r from hr) (fun r e => litv e) fun v h' q => op_unOp_sound hH op t x ho (hx x (by simp [Op.operands])) q
  | convert s d x =>
    rw [ho] at hr hx
    refine lift (show op_convert E h a s d x = some r from hr) ?_ fun v h' q => op_convert_sound hE hH s d x ho (hx x (by simp [Op.operands])) q
    intro r e
    obtain ⟨_, _, e⟩ := bind_some e
    obtain ⟨_, _, e⟩ := bind_some e
    split at e
    · cases e; exact ⟨_, _, rfl⟩
    · cases e; exact ⟨_, _, rfl⟩
    · obtain ⟨_, _, e⟩ := bind_some e
      split at e
      · cases e; exact ⟨_, _, rfl⟩
      · cases e
    · split at e
      · obtain ⟨_, _, e⟩ := bind_some e
        split at e
        · obtain ⟨_, _, e⟩ := bind_some e; obtain ⟨_, _, e⟩ := bind_some e; cases e; exact ⟨_, _, rfl⟩
        · cases e
      · cases e
    · exact litv e
    · exact litv e
    · cases e
  | makeInterface t x =>
    rw [ho] at hr hx
    refine lift (show op_makeInterface E h a t x = some r from hr) ?_ fun v h' q => op_makeInterface_sound hE hH t x ho (hx x (by simp [Op.operands])) q
    intro r e; obtain ⟨_, _, e⟩ := bind_some e
    split at e
    · cases e
    · cases e; exact ⟨_, _, rfl⟩
  | makeFunc fn first captured =>
    rw [ho] at hr hx
    refine lift (show op_makeFunc E h a fn first captured = some r from hr) ?_ fun v h' q => op_makeFunc_sound hH fn first captured ho (fun x hx' => hx x (by simp [Op.operands] at hx' ⊢; exact .inl hx')) (fun x hx' => hx x (by simp [Op.operands] at hx' ⊢; exact .inr hx')) q
    intro r e; obtain ⟨_, e⟩ := bif_some e; cases e; exact ⟨_, _, rfl⟩
  | makeSlice t x y =>
    rw [ho] at hr hx
    refine lift (show op_makeSlice E h a t x y = some r from hr) ?_ fun v h' q => op_makeSlice_sound hE hH t x y ho (hx x (by simp [Op.operands])) (hx y (by simp [Op.operands])) q
    intro r e; obtain ⟨_, _, e⟩ := bind_some e
    split at e
    · obtain ⟨_, _, e⟩ := bind_some e; obtain ⟨_, _, e⟩ := bind_some e; obtain ⟨_, e⟩ := bif_some e; cases e; exact ⟨_, _, rfl⟩
    · cases e
  | slice t x lo hi mx =>
    rw [ho] at hr hx
    refine lift (show op_slice E h a t x lo hi mx = some r from hr) (fun r e => litv e) fun v h' q => op_slice_sound hE hH t x lo hi mx ho (hx x (by simp [Op.operands])) (fun y hy => hx y (by subst hy; simp [Op.operands])) (fun y hy => hx y (by subst hy; simp [Op.operands])) (fun y hy => hx y (by subst hy; simp [Op.operands])) q
  | fieldAddr s x f =>
    rw [ho] at hr hx
    refine lift (show op_fieldAddr E h a s x f = some r from hr) ?_ fun v h' q => op_fieldAddr_sound hE hH s x f ho (hx x (by simp [Op.operands])) q
    intro r e; obtain ⟨_, _, e⟩ := bind_some e
    split at e
    · obtain ⟨_, _, e⟩ := bind_some e; obtain ⟨_, _, e⟩ := bind_some e; obtain ⟨_, _, e⟩ := bind_some e
      revert e
      cases Nat.beq _ 0 with
      | true => intro e; cases e
      | false => intro e; cases e; exact ⟨_, _, rfl⟩
    · cases e
  | field t x f =>
    rw [ho] at hr hx
    refine lift (show op_field E h a t x f = some r from hr) ?_ fun v h' q => op_field_sound hE hH t x f ho (hx x (by simp [Op.operands])) q
    intro r e; obtain ⟨_, _, e⟩ := bind_some e
    split at e
    · obtain ⟨_, _, e⟩ := bind_some e; exact litv e
    · cases e
  | indexAddr t x ix =>
    rw [ho] at hr hx
    refine lift (show op_indexAddr E h a t x ix = some r from hr) ?_ fun v h' q => op_indexAddr_sound hE hH t x ix ho (hx x (by simp [Op.operands])) (hx ix (by simp [Op.operands])) q
    intro r e; obtain ⟨_, _, e⟩ := bind_some e
    split at e
    · obtain ⟨_, _, e⟩ := bind_some e; obtain ⟨_, e⟩ := bif_some e; cases e; exact ⟨_, _, rfl⟩
    · obtain ⟨_, _, e⟩ := bind_some e; obtain ⟨_, e⟩ := bif_some e; cases e; exact ⟨_, _, rfl⟩
    · cases e
  | index t x ix =>
    rw [ho] at hr hx
    refine lift (show op_index E h a t x ix = some r from hr) ?_ fun v h' q => op_index_sound hE hH t x ix ho (hx x (by simp [Op.operands])) (hx ix (by simp [Op.operands])) q
    intro r e; obtain ⟨_, _, e⟩ := bind_some e
    split at e
    · obtain ⟨_, _, e⟩ := bind_some e; obtain ⟨_, e⟩ := bif_some e; exact litv e
    · obtain ⟨_, _, e⟩ := bind_some e; cases e; exact ⟨_, _, rfl⟩
    · cases e
  | extract t ix =>
    rw [ho] at hr hx
    refine lift (show op_extract E h a t ix = some r from hr) ?_ fun v h' q => op_extract_sound hH t ix ho (hx t (by simp [Op.operands])) q
    intro r e; unfold op_extract at e
    split at e
    · exact litv e
    · cases e
  | call cl =>
    rw [ho] at hr hx
    refine op_call_sound hE hH cl ho (fun x hx' => hx x (by simp [Op.operands, Call.operands] at hx' ⊢; exact .inr hx')) (fun f hf => hx f (by simp [Op.operands, Call.operands, hf])) hr
  | _ => rw [ho] at hr; cases hr
end Go.X
