/- A part of the evaluator of the model, and of the proof that what it answers is what a call comes to. No conditions of its own. -/
import Derived.Test.YthbmhdlbphkljaaGreatDoorXn
namespace Go.X
open Go
variable {P : Program} {E : Env}
variable {ρ : Rho} {h : H} {W : World} {a c : Operand → Value} {o : Oper}

theorem run_stringToBytes (W : World) (e : TypeId) (s : ByteArray) : ∃ D : Array Value, D = s.data.map (fun b => Value.int .u8 b.toNat) ++ Array.replicate (grownCap W s.size 0 e - s.size) (.int .u8 0) ∧
    (Conv.stringToBytes e s).run P W = .ok (.slice (some ⟨W.heap.size, 0, none⟩) s.size (grownCap W s.size 0 e)) { W.drew with heap := W.heap.push (.cells D e (D.size, D.size + 1)) } := by
  refine ⟨_, rfl, ?_⟩
  unfold Conv.stringToBytes
  simp only [Sem.run_bind, run_choose_drew, Question.forced, Bool.false_eq_true, if_false, Result.andThen_ok, run_newRow]
  unfold markStringish
  simp only [Sem.run_bind, shape, freeze, Sem.run, World.shape?, World.drew, Array.getElem?_push_size, Result.andThen_ok, World.freeze]
  simp [grownCap]
  apply Array.ext
  · simp
  · intro i h1 h2
    simp [Array.getElem_modify, Array.getElem_push]
    split
    · simp_all
    · have : i < W.heap.size := by
        have q : i < W.heap.size + 1 := by simpa using h1
        omega
      simp [this]
theorem op_convert_sound (hE : EnvOk P E) (hH : HRel ρ h W) (s d : TypeId) (x : Operand) (ho : o.op = .convert s d x) (hx : VRel ρ (a x) (c x)) {v : Value} {h' : H} (hr : op_convert E h a s d x = some (.val v h')) : OpOk P ρ h W v h' (execOp c o) := by
  obtain ⟨us, hus, hr⟩ := bind_some hr
  obtain ⟨ud, hud, hr⟩ := bind_some hr
  have hS := hE.underP hus
  have hD := hE.underP hud
  have fin : ∀ V W', (convert s d (c x)).run P W = .ok V W' → (execOp c o).run P W = .ok (.value V) W' := by
    intro V W' e
    simp only [execOp, ho, Sem.run_bind, e, Result.andThen_ok, Sem.run_pure]
  revert hx hr fin
  generalize a x = p
  generalize c x = q
  intro hx hr fin
  split at hr
  · rename_i k k2 n
    cases hr
    have := hx.int_inv
    subst this
    refine .pure hH (fin (.int k (k.wrap n)) W ?_) (by rw [wrapI_eq]; exact .int _ _)
    simp [convert, run_under hS, run_under hD, Conv.intToInt, Sem.run_pure]
  · rename_i b
    cases hr
    have := hx.str_inv
    subst this
    refine .pure hH (fin (.string b) W ?_) (.string _)
    simp [convert, run_under hS, run_under hD, Sem.run_pure]
  · rename_i e b
    obtain ⟨ue, hue, hr1⟩ := bind_some hr
    have hU := hE.underP hue
    split at hr1
    · cases hr1
      have := hx.str_inv
      subst this
      obtain ⟨D, hDD, hrun⟩ := run_stringToBytes (P := P) W e b
      have hcl : (byteVals b.data.toList).length = b.size := by rw [byteVals_eq, List.length_map, Array.length_toList]; rfl
      have hcap := grownCap_ge W b.size 0 e
      have hDs : D.size = grownCap W b.size 0 e := by
        rw [hDD, Array.size_append, Array.size_map, Array.size_replicate]
        have : b.data.size = b.size := rfl
        omega
      obtain ⟨k1, k2⟩ := row_new (e := e) (osz := 1) (c := byteVals b.data.toList) (C := D) (F := (D.size, D.size + 1)) (W' := { W.drew with heap := W.heap.push (.cells D e (D.size, D.size + 1)) }) hH (by rw [hcl, hDs]; exact hcap) (by
        intro i v hv
        refine ⟨v, ?_, ?_⟩
        · rw [byteVals_eq, List.getElem?_map, Array.getElem?_toList] at hv
          rw [hDD, Array.getElem?_append_left ?_, Array.getElem?_map]
          · exact hv
          · rw [Array.size_map]
            rcases Nat.lt_or_ge i b.data.size with g | g
            · exact g
            · rw [Array.getElem?_eq_none g] at hv; cases hv
        · rw [byteVals_eq, List.getElem?_map] at hv
          obtain ⟨b', _, rfl⟩ := Option.map_eq_some_iff.1 hv
          exact .int _ _) (by intro j hj q; have := q.1; simp only at this; simp at hj ⊢; omega) rfl rfl rfl rfl
      refine ⟨_, _, .slice (some ⟨W.heap.size, 0, none⟩) b.size (grownCap W b.size 0 e), .value _, fin _ _ ?_, .inl rfl, ?_, k1, k2⟩
      · simp only [convert, Sem.run_bind, run_under hS, run_under hD, run_under hU, Result.andThen_ok]
        cases us <;> exact hrun
      · have hl : len b.data.toList = b.size := by rw [len_eq, Array.length_toList]; rfl
        rw [hl]
        refine .slice _ _ _ _ _ _ _ (Rho.add_same _ _ _) ?_
        unfold SRel
        rw [if_pos ⟨Nat.one_ne_zero, by show 0 + b.size * 1 = (byteVals b.data.toList).length; rw [hcl]; omega⟩]
        exact ⟨hcap, .inl ⟨rfl, by show 0 + 0 + _ * 1 ≤ D.size; rw [hDs]; omega⟩⟩
    · cases hr1
  · rename_i base n cp
    split at hr
    · rename_i e
      obtain ⟨ue, hue, hr1⟩ := bind_some hr
      have hU := hE.underP hue
      split at hr1
      · obtain ⟨cs, hcs, hr2⟩ := bind_some hr1
        obtain ⟨bs, hbs, hr3⟩ := bind_some hr2
        cases hr3
        obtain ⟨NEW, hf, hrel, hlen⟩ := src_sound (P := P) hH hx (L := n) rfl (Nat.le_refl n) hcs
        have hconv : ∀ (cs NEW : List Value) (bs : List UInt8), bytesOf cs = some bs → VRels ρ cs NEW → ∃ ns : List Int, NEW = ns.map (Value.int .u8) ∧ bs = ns.map fun n => UInt8.ofNat n.toNat := by
          intro cs
          induction cs with
          | nil => intro NEW bs h1 h2; cases h1; cases h2; exact ⟨[], rfl, rfl⟩
          | cons v cs ih =>
            intro NEW bs h1 h2
            cases h2 with
            | cons _ V _ L hv hl =>
              obtain ⟨b, hb, h1⟩ := bind_some h1
              have h1' : Option.rec (motive := fun _ => Option (List UInt8)) none (fun r => some (b :: r)) (bytesOf cs) = some bs := h1
              cases hq : bytesOf cs with
              | none => rw [hq] at h1'; cases h1'
              | some r =>
                rw [hq] at h1'; cases h1'
                obtain ⟨ns, hn1, hn2⟩ := ih L r hq hl
                unfold byteOf at hb
                split at hb
                · rename_i m
                  cases hb
                  have := hv.int_inv
                  subst this
                  exact ⟨m :: ns, by rw [hn1]; rfl, by rw [hn2]; rfl⟩
                · cases hb
        obtain ⟨ns, hn1, hn2⟩ := hconv cs NEW bs hbs hrel
        have hfold : ∀ (ns : List Int) (s : ByteArray), (ns.foldl (fun r n => r.push (UInt8.ofNat n.toNat)) s) = ⟨⟨s.data.toList ++ ns.map fun n => UInt8.ofNat n.toNat⟩⟩ := by
          intro ns
          induction ns with
          | nil => intro s; simp
          | cons m ns ih => intro s; rw [List.foldl_cons, ih]; simp [ByteArray.push]
        obtain ⟨BB, CC, hS'⟩ : ∃ B C, q = .slice B n C := by
          rcases lenOf_rel (x := .slice base n cp) (L := n) rfl hx with ⟨B, C, e⟩ | ⟨s', e, _⟩
          · exact ⟨B, C, e⟩
          · subst e; cases hx
        subst hS'
        refine .pure hH (fin (.string ⟨⟨bs⟩⟩) W ?_) (.string _)
        rw [run_convert_bytes_string W s d _ BB n CC hS hU hD]
        cases BB with
        | none =>
          have hN : NEW.toArray = #[] := by
            simp only [Builtin.firstCells, Sem.run_pure] at hf
            cases hf; rfl
          have : ns = [] := by
            cases ns with
            | nil => rfl
            | cons _ _ => rw [hn1] at hN; simp at hN
          subst this
          rw [hn2]
          rfl
        | some A =>
          have hf' : (Go.loadCells A n).run P W = .ok (ns.map (Value.int .u8)).toArray W := by
            simp only [Builtin.firstCells, Nat.mul_one] at hf
            rw [hf, hn1]
          rw [run_bytesToString W A n CC ns hf', hfold, hn2]
          rfl
      · cases hr1
    · cases hr
  · rename_i p1
    obtain ⟨u1, hu1, hv1⟩ := map_some hr
    cases hv1
    unfold ptrOut at hu1
    split at hu1
    · cases hu1; cases hx
      exact .pure hH (fin (.pointer none) W (by simp [convert, run_under hS, run_under hD, Conv.unsafePointer, Sem.run_pure])) .pnil
    · rename_i t1 a1
      obtain ⟨sz, hsz, hu1⟩ := bind_some hu1
      obtain ⟨xr, hxr, hu1⟩ := bind_some hu1
      obtain ⟨hc, hu1⟩ := bif_some hu1
      cases hu1
      cases hx with
      | ptr b1 o1 r1 hr1 =>
        rw [Bool.and_eq_true] at hc
        obtain ⟨c1, c2⟩ := hc
        rw [natBlt_eq, decide_eq_true_eq] at c1 c2
        rw [len_eq] at c2
        obtain ⟨C, F, k1, k2, k3, k4, k5, k6, _⟩ := hH.obj _ _ r1 (H.row_get hxr) hr1
        have hz : sz ≠ 0 := by omega
        refine .pure hH (fin (.pointer (some ⟨r1.blk, r1.base + o1, none⟩)) W ?_) (.ptr _ _ _ hr1)
        have hlt : ¬ C.size ≤ r1.base + o1 := by show ¬ _; simp only at c2; omega
        have hsh : W.shape? r1.blk = some (xr.elem, C.size) := by simp [World.shape?, k1]
        simp [convert, run_under hS, run_under hD, Conv.unsafePointer, Conv.seenAt, viewAt, cellsIn, shape, Sem.run_pure, hE.size hsz, hz, hsh, hlt, Sem.run]
    · cases hu1
  · rename_i u2 p1
    obtain ⟨u1, hu1, hv1⟩ := map_some hr
    cases hv1
    unfold ptrIn at hu1
    split at hu1
    · cases hu1; cases hx
      exact .pure hH (fin (.pointer none) W (by simp [convert, run_under hS, run_under hD, Conv.unsafePointer, Sem.run_pure])) .pnil
    · rename_i a1
      obtain ⟨sz, hsz, hu1⟩ := bind_some hu1
      obtain ⟨xr, hxr, hu1⟩ := bind_some hu1
      obtain ⟨hc, hu1⟩ := bif_some hu1
      cases hu1
      cases hx with
      | ptr b1 o1 r1 hr1 =>
        simp only [Bool.and_eq_true, natBlt_eq, natBeq_eq, natBle_eq, decide_eq_true_eq, len_eq] at hc
        obtain ⟨⟨⟨⟨c1, c2⟩, c3⟩, c4⟩, c5⟩ := hc
        obtain ⟨C, F, k1, k2, k3, k4, k5, k6, _⟩ := hH.obj _ _ r1 (H.row_get hxr) hr1
        have hz : sz ≠ 0 := by omega
        have hb0 : r1.base = 0 := k4.2 c2
        refine .pure hH (fin (.pointer (some ⟨r1.blk, r1.base + o1, none⟩)) W ?_) (.ptr _ _ _ hr1)
        have hco : P.cellsOf u2 = sz := by
          obtain ⟨i, hi, hd⟩ := bind_some hsz
          cases hd
          obtain ⟨j, hj, hs, _⟩ := hE.info u2 i hi
          unfold Program.cellsOf
          rw [hj]; exact hs
        have hl : liesAt P P.depth u2 (C.size / P.cellsOf u2) (r1.base + o1) u2 1 = true := by
          have hd : P.depth = (2 * (P.types.size + Made.depth) + 1) + 1 := rfl
          rw [hd]
          simp only [liesAt, Bool.or_eq_true]
          left
          rw [hd]
          have hm : (r1.base + o1) % sz = 0 := by rw [hb0, Nat.zero_add]; exact c4
          have hq : (r1.base + o1) / sz + 1 ≤ C.size / sz := by
            rw [Nat.le_div_iff_mul_le (by omega)]
            have := Nat.div_add_mod (r1.base + o1) sz
            rw [hm] at this
            have e1 : ((r1.base + o1) / sz + 1) * sz = sz * ((r1.base + o1) / sz) + sz := by rw [Nat.add_mul, Nat.mul_comm]; simp
            omega
          simp [rowAt, hco, hz, hm, hq, sameLayout]
        subst c3
        have hsh : W.shape? r1.blk = some (xr.elem, C.size) := by simp [World.shape?, k1]
        simp [convert, run_under hS, run_under hD, Conv.unsafePointer, Conv.seenAt, viewAt, shape, Sem.run_pure, hE.size hsz, hz, hsh, Sem.run, variablesAt, hl]
    · cases hu1
  · cases hr
end Go.X
