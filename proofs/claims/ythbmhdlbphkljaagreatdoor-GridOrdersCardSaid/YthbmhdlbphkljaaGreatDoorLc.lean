/- Proved: whatever entries and cells come in, GridEntries and GridOrders answer true, and the arguments read as they did. Conditions: none beyond those that the given statements state themselves. -/
import Derived.Test.YthbmhdlbphkljaaGreatDoorLb
namespace Go.Proofs.YthbmhdlbphkljaaGreatDoor
open Go Go.X
theorem eqNil_some (b o n c : Nat) : X.binOp EE .eql 22 (.slice (some ⟨b, o, none⟩) n c) (.slice none 0 0) = some (.bool false) := by kernel_rfl
theorem eqNil_none : X.binOp EE .eql 22 (.slice none 0 0) (.slice none 0 0) = some (.bool true) := by kernel_rfl
theorem bld0 (h : H) : buildS EE h 22 0 [] = some (X.newRow h 30 [] 0) := by kernel_rfl
theorem bld1 (e : Ent) (h : H) : buildS EE h 22 1 [(0, e.val)] = some (X.newRow h 30 e.cells 0) := by kernel_rfl
theorem allOne_flatE (es : List Ent) : allOne (flatE es) = true := by
  have app : ∀ a b : List Value, allOne (a ++ b) = (allOne a && allOne b) := by
    intro a
    induction a with
    | nil => intro b; simp
    | cons v a ih => intro b; simp [ih, Bool.and_assoc]
  induction es with
  | nil => rfl
  | cons e es ih =>
    show allOne (e.cells ++ flatE es) = true
    rw [app, ih]; simp [Ent.cells]
def z0 : Ent := ⟨0, 0, 0, [], 0, false, [], [], [], false, 0⟩
theorem zeros_flat (n : Nat) : zeros z0.cells n = flatE (List.replicate n z0) := by
  induction n with
  | zero => rfl
  | succ n ih =>
    show app z0.cells (zeros z0.cells n) = _
    rw [app_eq, ih]; rfl
theorem flatE_take (L : List Ent) (n : Nat) : (flatE L).take (11 * n) = flatE (L.take n) := by
  by_cases h : n ≤ L.length
  · have h1 : flatE L = flatE (L.take n) ++ flatE (L.drop n) := by rw [← flatE_app, List.take_append_drop]
    have h2 : (flatE (L.take n)).length = 11 * n := by rw [flatE_len, List.length_take]; omega
    rw [h1, ← h2, List.take_left]
  · rw [List.take_of_length_le (by rw [flatE_len]; omega), List.take_of_length_le (by omega)]
theorem flatE_drop (L : List Ent) (n : Nat) : (flatE L).drop (11 * n) = flatE (L.drop n) := by
  by_cases h : n ≤ L.length
  · have h1 : flatE L = flatE (L.take n) ++ flatE (L.drop n) := by rw [← flatE_app, List.take_append_drop]
    have h2 : (flatE (L.take n)).length = 11 * n := by rw [flatE_len, List.length_take]; omega
    rw [h1, ← h2, List.drop_left]
  · rw [List.drop_of_length_le (by rw [flatE_len]; omega), List.drop_of_length_le (by omega)]; rfl
/-- entries set in a row of entries -/
def setE (L : List Ent) (i : Nat) (fs : List Ent) : List Ent := L.take i ++ fs ++ L.drop (i + fs.length)
theorem splice_flat (L : List Ent) (i : Nat) (fs : List Ent) (h : i + fs.length ≤ L.length) : spliceAt (flatE L) (i * 11) (flatE fs) = flatE (setE L i fs) := by
  rw [spliceAt_eq _ _ _ (by rw [flatE_len, flatE_len]; omega), Nat.mul_comm i 11, flatE_take, flatE_len, ← Nat.mul_add, flatE_drop]
  unfold setE
  rw [flatE_app, flatE_app]
theorem setE_len (L : List Ent) (i : Nat) (fs : List Ent) (h : i + fs.length ≤ L.length) : (setE L i fs).length = L.length := by
  unfold setE; simp; omega
theorem store_flat {h : H} {b : Nat} {L : List Ent} (hr : h.row b = some ⟨flatE L, 30, 0, 0, false⟩) (i : Nat) (fs : List Ent) (hi : i + fs.length ≤ L.length) : X.storeCells h ⟨b, i * 11, none⟩ (flatE fs) = some (h.put b (.row ⟨flatE (setE L i fs), 30, 0, 0, false⟩)) := by
  rw [storeCells_eq, hr]
  simp only [Option.bind_some]
  rw [if_pos ⟨trivial, Nat.zero_le _, by rw [flatE_len, flatE_len]; omega, allOne_flatE _⟩, splice_flat L i fs hi]
inductive OwnSl (h0 h : H) : Value → List Ent → Prop
  | nil : OwnSl h0 h (.slice none 0 0) []
  | at (b n : Nat) (L : List Ent) (hb0 : h0.next ≤ b) (hb : b < h.next) (hr : h.row b = some ⟨flatE L, 30, 0, 0, false⟩) (hn : n ≤ L.length) : OwnSl h0 h (.slice (some ⟨b, 0, none⟩) n L.length) (L.take n)
/-- a part of a row of entries -/
theorem read_row {h : H} {b : Nat} {L : List Ent} (hb : b < h.next) (hr : h.row b = some ⟨flatE L, 30, 0, 0, false⟩) (i n c : Nat) (hn : i + n ≤ L.length) (hc : n ≤ c) : ReadSl h (.slice (some ⟨b, i * 11, none⟩) n c) ((L.drop i).take n) := by
  have hl : ((L.drop i).take n).length = n := by simp; omega
  have := ReadSl.at (h := h) b (i * 11) c ((L.drop i).take n) ⟨hb, _, hr, rfl, by rw [hl, Nat.mul_comm i 11, flatE_drop, flatE_take]⟩ (by omega)
  rw [hl] at this; exact this
theorem OwnSl.read {h0 h : H} {v : Value} {es : List Ent} (o : OwnSl h0 h v es) : ReadSl h v es := by
  cases o with
  | nil => exact .nil
  | «at» b n L hb0 hb hr hn => exact read_row hb hr 0 n _ (by omega) hn
theorem OwnSl.fr {h0 h h' : H} {v : Value} {es : List Ent} (o : OwnSl h0 h v es) (f : Fr h h') : OwnSl h0 h' v es := by
  cases o with
  | nil => exact .nil
  | «at» b n L hb0 hb hr hn => exact .at b n L hb0 (Nat.lt_of_lt_of_le hb f.next) (by rw [row_fr f hb]; exact hr) hn
theorem ReadSl.src {h : H} {v : Value} {es : List Ent} (r : ReadSl h v es) : X.lenOf v = some es.length ∧ srcCells h 11 es.length v = some (flatE es) := by
  cases r with
  | nil => exact ⟨rfl, rfl⟩
  | «at» b o c _ hr hc =>
    refine ⟨rfl, ?_⟩
    obtain ⟨x, hx, _, ht⟩ := hr.row
    show (bif Nat.beq (es.length * 11) 0 then some [] else X.loadCells h ⟨b, o, none⟩ (es.length * 11)) = _
    rw [natBeq_eq]
    by_cases e : es.length * 11 = 0
    · have : es = [] := List.eq_nil_of_length_eq_zero (by omega)
      subst this; rfl
    · simp only [e, decide_false, cond_false]
      show (h.row b).bind _ = _
      rw [hx]
      show takeN (es.length * 11) (dropN o x.cs) = _
      have hlen : es.length * 11 ≤ (x.cs.drop o).length := by
        have := congrArg List.length ht
        rw [List.length_take, flatE_len] at this; omega
      rw [dropN_eq, takeN_ok hlen, ← ht, Nat.mul_comm]
theorem room30 {n m : Nat} (hn : n ≤ big) (hm : m ≤ big) : ∃ i, EE.info 30 = some i ∧ (n + m + 64) * 4 * i.bytes ≤ 70368744177664 := by
  have h := by30
  cases hi : EE.info 30 with
  | none => rw [hi] at h; cases h
  | some i =>
    rw [hi] at h
    have hbb : big = 10000000000 := rfl
    have hb : i.bytes = 120 := Option.some.inj h
    refine ⟨i, rfl, ?_⟩
    rw [hb]; omega
/-- a new row -/
theorem appNew_own {h0 h : H} {es fs : List Ent} {l m : Nat} (hl : l = es.length) (hm : m = fs.length) (hf : Fr h0 h) (h1 : es.length ≤ big) (h2 : fs.length ≤ big) {K : Value → H → Prop}
    (hK : ∀ v' h', Fr h0 h' → OwnSl h0 h' v' (es ++ fs) → K v' h') : appNew EE h 30 11 l m (flatE es) (flatE fs) K := by
  subst hl; subst hm
  have hbb : big = 10000000000 := rfl
  obtain ⟨i, hi, hr⟩ := room30 h1 h2
  unfold appNew
  rw [hi, bindO_some, zc30, bindO_some]
  have hc : (Nat.ble ((es.length + fs.length + 64) * 4 * i.bytes) 70368744177664 && Nat.ble (es.length + fs.length) 70368744177664 && Nat.beq (len (α := Value) [.int .i64 0, .int .i64 0, .int .i64 0, .string ⟨⟨[]⟩⟩, .int .i64 0, .bool false, .string ⟨⟨[]⟩⟩, .string ⟨⟨[]⟩⟩, .string ⟨⟨[]⟩⟩, .bool false, .int .i64 0]) 11) = true := by
    rw [natBle_eq, natBle_eq, len_eq]
    simp only [hr, decide_true, Bool.true_and, Bool.and_eq_true, decide_eq_true_eq]
    exact ⟨by omega, rfl⟩
  rw [hc]
  show ∀ G, _ → _
  intro G hG
  have hz : zeros [.int .i64 0, .int .i64 0, .int .i64 0, .string ⟨⟨[]⟩⟩, .int .i64 0, .bool false, .string ⟨⟨[]⟩⟩, .string ⟨⟨[]⟩⟩, .string ⟨⟨[]⟩⟩, .bool false, .int .i64 0] (G - (es.length + fs.length)) = flatE (List.replicate (G - (es.length + fs.length)) z0) := zeros_flat _
  rw [app_eq, app_eq, hz, ← flatE_app, ← flatE_app]
  have := OwnSl.at (h0 := h0) (h := X.newRow h 30 (flatE (es ++ fs ++ List.replicate (G - (es.length + fs.length)) z0)) 0) h.next (es.length + fs.length) (es ++ fs ++ List.replicate (G - (es.length + fs.length)) z0) hf.next (by simp) (by rw [row_newRow, if_pos rfl]) (by simp)
  have e1 : (es ++ fs ++ List.replicate (G - (es.length + fs.length)) z0).length = G := by simp; omega
  have e2 : (es ++ fs ++ List.replicate (G - (es.length + fs.length)) z0).take (es.length + fs.length) = es ++ fs := by
    have : es.length + fs.length = (es ++ fs).length := by simp
    rw [this, List.take_left]
  rw [e1, e2] at this
  exact hK _ _ (hf.newRow _ _ _) this
/-- append in the room that there is -/
theorem app_in {h : H} {w : Value} {fs : List Ent} {b n : Nat} {L : List Ent} (hb : b < h.next) (hr : h.row b = some ⟨flatE L, 30, 0, 0, false⟩) (r : ReadSl h w fs) (hroom : n + fs.length ≤ L.length) {K : Value → H → Prop}
    (hK : ∀ h', (fs = [] ∧ h' = h ∨ h' = h.put b (.row ⟨flatE (setE L n fs), 30, 0, 0, false⟩)) → K (.slice (some ⟨b, 0, none⟩) (n + fs.length) L.length) h') : appP EE h #[22, 22] (.slice (some ⟨b, 0, none⟩) n L.length) w K := by
  obtain ⟨r1, r2⟩ := r.src
  have isD : ((EE.under 22).map isIntD) = some false := by rw [un22]; rfl
  have inP : ∀ (h' : H), X.appIn h (some ⟨b, 0, none⟩) n 11 fs.length L.length (flatE fs) = some (.val (.slice (some ⟨b, 0, none⟩) (n + fs.length) L.length) h') → K (.slice (some ⟨b, 0, none⟩) (n + fs.length) L.length) h' → appP EE h #[22, 22] (.slice (some ⟨b, 0, none⟩) n L.length) w K := by
    intro h' hin hk
    refine ⟨.inl ?_⟩
    have : builtinR EE h .append #[22, 22] [.slice (some ⟨b, 0, none⟩) n L.length, w] = some (.val (.slice (some ⟨b, 0, none⟩) (n + fs.length) L.length) h') := by
      show X.append EE h 22 (some 22) (.slice (some ⟨b, 0, none⟩) n L.length) w = _
      unfold X.append
      rw [un22]
      simp only [Option.bind_some, sz30]
      rw [isD]
      simp only [Option.bind_some, r1, r2, natBle_eq, hroom, decide_true]
      exact hin
    rw [this]
    exact hk
  by_cases hm : fs.length = 0
  · have : fs = [] := List.eq_nil_of_length_eq_zero hm
    subst this
    exact inP h rfl (hK h (.inl ⟨rfl, rfl⟩))
  · refine inP _ ?_ (hK _ (.inr rfl))
    show Bool.rec (motive := fun _ => Option R) ((X.storeCells h (addO ⟨b, 0, none⟩ (n * 11)) (flatE fs)).bind _) _ (Nat.beq (fs.length * 11) 0) = _
    rw [natBeq_eq]
    have : ¬ fs.length * 11 = 0 := by omega
    simp only [this, decide_false, addO_eq, Nat.zero_add]
    rw [store_flat hr n fs hroom]; rfl
theorem setE_take (L : List Ent) (n : Nat) (fs : List Ent) (hn : n ≤ L.length) : (setE L n fs).take (n + fs.length) = L.take n ++ fs := by
  unfold setE
  have : n + fs.length = (L.take n ++ fs).length := by simp; omega
  rw [this, List.take_left]
theorem app_own {h0 h : H} {v w : Value} {es fs : List Ent} (hf : Fr h0 h) (o : OwnSl h0 h v es) (r : ReadSl h w fs) (h1 : es.length ≤ big) (h2 : fs.length ≤ big) {K : Value → H → Prop}
    (hK : ∀ v' h', Fr h0 h' → OwnSl h0 h' v' (es ++ fs) → K v' h') : appP EE h #[22, 22] v w K := by
  obtain ⟨r1, r2⟩ := r.src
  obtain ⟨o1, o2⟩ := o.read.src
  have isD : ((EE.under 22).map isIntD) = some false := by rw [un22]; rfl
  have outP : ∀ (base : Option Addr) (c : Nat), ¬ es.length + fs.length ≤ c → v = .slice base es.length c → X.openEnd h base c = some false → appP EE h #[22, 22] v w K := by
    intro base c hroom hv ho
    refine ⟨.inr (.inl ?_)⟩
    show appAny EE h [22, 22] v w K
    unfold appAny
    show bindO (some 22) _
    rw [bindO_some, un22, bindO_some]
    rw [hv] at o2 ⊢
    show bindO (EE.size 30) _
    rw [sz30, bindO_some]
    show bindO ((EE.under 22).map isIntD) _
    rw [isD, bindO_some]
    show bindO (X.lenOf w) _
    rw [r1, bindO_some, r2, bindO_some, o2, bindO_some, ho, bindO_some]
    show (bif Nat.ble (es.length + fs.length) c then False else _)
    rw [natBle_eq]
    simp only [hroom, decide_false, cond_false]
    exact appNew_own rfl rfl hf h1 h2 hK
  cases o with
  | nil =>
    by_cases hm : fs.length = 0
    · have : fs = [] := List.eq_nil_of_length_eq_zero hm
      subst this
      refine ⟨.inl ?_⟩
      have : builtinR EE h .append #[22, 22] [.slice none 0 0, w] = some (.val (.slice none 0 0) h) := by
        show X.append EE h 22 (some 22) (.slice none 0 0) w = _
        unfold X.append
        rw [un22]
        simp only [Option.bind_some, sz30]
        rw [isD]
        simp only [Option.bind_some, r1, r2]
        rfl
      rw [this]
      exact hK _ _ hf .nil
    · exact outP none 0 (by show ¬ (0 + fs.length ≤ 0); omega) rfl rfl
  | «at» b n L hb0 hb hr hn =>
    have hl : (L.take n).length = n := by simp; omega
    by_cases hroom : n + fs.length ≤ L.length
    · refine app_in hb hr r hroom ?_
      rintro h' (⟨e1, rfl⟩ | rfl)
      · subst e1
        have := OwnSl.at (h0 := h0) (h := h') b n L hb0 hb hr hn
        simpa using hK _ _ hf (by simpa using this)
      · have hs := setE_len L n fs hroom
        have := OwnSl.at (h0 := h0) (h := h.put b (.row ⟨flatE (setE L n fs), 30, 0, 0, false⟩)) b (n + fs.length) (setE L n fs) hb0 hb (by rw [row_put, if_pos rfl]) (by rw [hs]; exact hroom)
        rw [setE_take L n fs hn, hs] at this
        exact hK _ _ (hf.put _ hb0) this
    · refine outP _ L.length (by rw [hl]; exact hroom) (by rw [hl]) ?_
      show (h.row b).map _ = _
      rw [hr]; rfl
end Go.Proofs.YthbmhdlbphkljaaGreatDoor
