/- A part of the evaluator of the model, and of the proof that what it answers is what a call comes to. No conditions of its own. -/
import Derived.Test.YtghaibhkgbccjaaGreatDoorXn
namespace Go.X
open Go
variable {P : Program} {E : Env}
variable {ρ : Rho} {h : H} {W : World} {a c : Operand → Value} {o : Oper}

theorem run_stringToBytes (W : World) (e : TypeId) (s : ByteArray) : ∃ D : Array Value, D = s.data.map (fun b => Value.int .u8 b.toNat) ++ Array.replicate (grownCap W s.size 0 e - s.size) (.int .u8 0) ∧
    (Conv.stringToBytes e s).run P W = .ok (.slice (some ⟨W.heap.size, 0, none⟩) s.size (grownCap W s.size 0 e)) { W.drew with heap := W.heap.push (.cells D e (D.size, D.size + 1)) } := by
  refine ⟨_, rfl, ?_⟩
  unfold Conv.stringToBytes
  simp only [Sem.run_bind, run_choose_drew, Question.forced, Bool.false_eq_true, if_false, Result.andThen_ok, run_newRow]
  unfold markStringish
  simp only [Sem.run_bind, shape, freeze, Sem.run, World.shape?, World.drew, Array.getElem?_push_size, Result.andThen_ok, World.freeze]
  simp [grownCap]
  apply Array.ext
  · simp
  · intro i h1 h2
    simp [Array.getElem_modify, Array.getElem_push]
    split
    · simp_all
    · have : i < W.heap.size := by
        have q : i < W.heap.size + 1 := by simpa using h1
        omega
      simp [this]
theorem op_convert_sound (hE : EnvOk P E) (hH : HRel ρ h W) (s d : TypeId) (x : Operand) (ho : o.op = .convert s d x) (hx : VRel ρ (a x) (c x)) {v : Value} {h' : H} (hr : op_convert E h a s d x = some (.val v h')) : OpOk P ρ h W v h' (execOp c o) := by
  obtain ⟨us, hus, hr⟩ := bind_some hr
  obtain ⟨ud, hud, hr⟩ := bind_some hr
  have hS := hE.underP hus
  have hD := hE.underP hud
  have fin : ∀ V W', (convert s d (c x)).run P W = .ok V W' → (execOp c o).run P W = .ok (.value V) W' := by
    intro V W' e
    simp only [execOp, ho, Sem.run_bind, e, Result.andThen_ok, Sem.run_pure]
  revert hx hr fin
  generalize a x = p
  generalize c x = q
  intro hx hr fin
  split at hr
  · rename_i k k2 n
    cases hr
    have := hx.int_inv
    subst this
    refine .pure hH (fin (.int k (k.wrap n)) W ?_) (by rw [wrapI_eq]; exact .int _ _)
    simp [convert, run_under hS, run_under hD, Conv.intToInt, Sem.run_pure]
  · rename_i b
    cases hr
    have := hx.str_inv
    subst this
    refine .pure hH (fin (.string b) W ?_) (.string _)
    simp [convert, run_under hS, run_under hD, Sem.run_pure]
  · rename_i e b
    obtain ⟨ue, hue, hr1⟩ := bind_some hr
    have hU := hE.underP hue
    split at hr1
    · cases hr1
      have := hx.str_inv
      subst this
      obtain ⟨D, hDD, hrun⟩ := run_stringToBytes (P := P) W e b
      have hcl : (byteVals b.data.toList).length = b.size := by rw [byteVals_eq, List.length_map, Array.length_toList]; rfl
      have hcap := grownCap_ge W b.size 0 e
      have hDs : D.size = grownCap W b.size 0 e := by
        rw [hDD, Array.size_append, Array.size_map, Array.size_replicate]
        have : b.data.size = b.size := rfl
        omega
      obtain ⟨k1, k2⟩ := row_new (e := e) (osz := 1) (c := byteVals b.data.toList) (C := D) (F := (D.size, D.size + 1)) (W' := { W.drew with heap := W.heap.push (.cells D e (D.size, D.size + 1)) }) hH (by rw [hcl, hDs]; exact hcap) (by
        intro i v hv
        refine ⟨v, ?_, ?_⟩
        · rw [byteVals_eq, List.getElem?_map, Array.getElem?_toList] at hv
          rw [hDD, Array.getElem?_append_left ?_, Array.getElem?_map]
          · exact hv
          · rw [Array.size_map]
            rcases Nat.lt_or_ge i b.data.size with g | g
            · exact g
            · rw [Array.getElem?_eq_none g] at hv; cases hv
        · rw [byteVals_eq, List.getElem?_map] at hv
          obtain ⟨b', _, rfl⟩ := Option.map_eq_some_iff.1 hv
          exact .int _ _) (by intro j hj q; have := q.1; simp only at this; omega) rfl rfl rfl rfl
      refine ⟨_, _, .slice (some ⟨W.heap.size, 0, none⟩) b.size (grownCap W b.size 0 e), .value _, fin _ _ ?_, .inl rfl, ?_, k1, k2⟩
      · simp only [convert, Sem.run_bind, run_under hS, run_under hD, run_under hU, Result.andThen_ok]
        cases us <;> exact hrun
      · have hl : len b.data.toList = b.size := by rw [len_eq, Array.length_toList]; rfl
        rw [hl]
        refine .slice _ _ _ _ _ _ _ (Rho.add_same _ _ _) ?_
        unfold SRel
        rw [if_pos ⟨Nat.one_ne_zero, by show 0 + b.size * 1 = (byteVals b.data.toList).length; rw [hcl]; omega⟩]
        exact ⟨hcap, .inl ⟨rfl, by show 0 + 0 + _ * 1 ≤ D.size; rw [hDs]; omega⟩⟩
    · cases hr1
  · rename_i base n cp
    split at hr
    · rename_i e
      obtain ⟨ue, hue, hr1⟩ := bind_some hr
      have hU := hE.underP hue
      split at hr1
      · obtain ⟨cs, hcs, hr2⟩ := bind_some hr1
        obtain ⟨bs, hbs, hr3⟩ := bind_some hr2
        cases hr3
        obtain ⟨NEW, hf, hrel, hlen⟩ := src_sound (P := P) hH hx (L := n) rfl (Nat.le_refl n) hcs
        have hconv : ∀ (cs NEW : List Value) (bs : List UInt8), bytesOf cs = some bs → VRels ρ cs NEW → ∃ ns : List Int, NEW = ns.map (Value.int .u8) ∧ bs = ns.map fun n => UInt8.ofNat n.toNat := by
          intro cs
          induction cs with
          | nil => intro NEW bs h1 h2; cases h1; cases h2; exact ⟨[], rfl, rfl⟩
          | cons v cs ih =>
            intro NEW bs h1 h2
            cases h2 with
            | cons _ V _ L hv hl =>
              obtain ⟨b, hb, h1⟩ := bind_some h1
              have h1' : Option.rec (motive := fun _ => Option (List UInt8)) none (fun r => some (b :: r)) (bytesOf cs) = some bs := h1
              cases hq : bytesOf cs with
              | none => rw [hq] at h1'; cases h1'
              | some r =>
                rw [hq] at h1'; cases h1'
                obtain ⟨ns, hn1, hn2⟩ := ih L r hq hl
                unfold byteOf at hb
                split at hb
                · rename_i m
                  cases hb
                  have := hv.int_inv
                  subst this
                  exact ⟨m :: ns, by rw [hn1]; rfl, by rw [hn2]; rfl⟩
                · cases hb
        obtain ⟨ns, hn1, hn2⟩ := hconv cs NEW bs hbs hrel
        have hfold : ∀ (ns : List Int) (s : ByteArray), (ns.foldl (fun r n => r.push (UInt8.ofNat n.toNat)) s) = ⟨⟨s.data.toList ++ ns.map fun n => UInt8.ofNat n.toNat⟩⟩ := by
          intro ns
          induction ns with
          | nil => intro s; simp
          | cons m ns ih => intro s; rw [List.foldl_cons, ih]; simp [ByteArray.push]
        obtain ⟨BB, CC, hS'⟩ : ∃ B C, q = .slice B n C := by
          rcases lenOf_rel (x := .slice base n cp) (L := n) rfl hx with ⟨B, C, e⟩ | ⟨s', e, _⟩
          · exact ⟨B, C, e⟩
          · subst e; cases hx
        subst hS'
        refine .pure hH (fin (.string ⟨⟨bs⟩⟩) W ?_) (.string _)
        rw [run_convert_bytes_string W s d _ BB n CC hS hU hD]
        cases BB with
        | none =>
          have hN : NEW.toArray = #[] := by
            simp only [Builtin.firstCells, Sem.run_pure] at hf
            cases hf; rfl
          have : ns = [] := by
            cases ns with
            | nil => rfl
            | cons _ _ => rw [hn1] at hN; simp at hN
          subst this
          rw [hn2]
          rfl
        | some A =>
          have hf' : (Go.loadCells A n).run P W = .ok (ns.map (Value.int .u8)).toArray W := by
            simp only [Builtin.firstCells, Nat.mul_one] at hf
            rw [hf, hn1]
          rw [run_bytesToString W A n CC ns hf', hfold, hn2]
          rfl
      · cases hr1
    · cases hr
  · cases hr
end Go.X
