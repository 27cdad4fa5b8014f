/- Proved: whatever entries and cells come in, GridEntries and GridOrders answer true, and the arguments read as they did. Conditions: none beyond those that the given statements state themselves. -/
import Derived.Test.YthbmhdlbphkljaaGreatDoorLd
import Derived.Lib.Overlaps
namespace Go.Proofs.YthbmhdlbphkljaaGreatDoor
open Go Go.X
theorem overlaps_apart {h : H} {q b oq ob la ca lb cb : Nat} {x y : Blk} (hne : q ≠ b) (hx : h.row q = some x) (x1 : x.ro = false) (x2 : x.frz = 0) (x3 : x.osz = 0) (hoq : oq ≤ x.cs.length) (hy : h.row b = some y) (y1 : y.ro = false) (y2 : y.osz = 0) (y3 : y.cs ≠ []) :
    ExtW PP n_slices_overlaps_api_Entry_ [.slice (some ⟨q, oq, none⟩) la ca, .slice (some ⟨b, ob, none⟩) lb cb] h (fun v h' => v = .bool false ∧ h' = h) := by
  refine ⟨⟨_, _, rfl, rfl⟩, Tryz.f29, Extern.SlicesOverlaps.overlaps #[22, 22] #[4], envOk.funcs n_slices_overlaps_api_Entry_ Tryz.f29 (by kernel_rfl), by kernel_rfl, by kernel_rfl, by kernel_rfl, ?_⟩
  intro ρ ARGS W hA hH
  cases hA with
  | cons _ A1 _ L1 h1 hl =>
    cases hl with
    | cons _ A2 _ L2 h2 hl2 =>
      cases hl2
      cases h1 with
      | slice _ _ _ _ P1 C1 r1 e1 s1 =>
        cases h2 with
        | slice _ _ _ _ P2 C2 r2 e2 s2 =>
          obtain ⟨D1, F1, a1, a2, a3, a4, a5, a6, a7⟩ := hH.obj q _ r1 (H.row_get hx) e1
          obtain ⟨D2, F2, b1, b2, b3, b4, b5, b6, b7⟩ := hH.obj b _ r2 (H.row_get hy) e2
          have z1 : r1.osz = 0 := by rw [a4.1, x3]
          have z2 : r2.osz = 0 := by rw [b4.1, y2]
          unfold SRel at s1 s2
          rw [if_neg (fun q => q.1 z1)] at s1
          rw [if_neg (fun q => q.1 z2)] at s2
          obtain ⟨rfl, rfl⟩ := s1
          obtain ⟨rfl, rfl⟩ := s2
          have hb := hH.inj q b _ _ r1 r2 (H.row_get hx) (H.row_get hy) e1 e2 hne (by show (x.ro && y.ro) = false; rw [x1]; rfl)
          have hyl : y.cs.length ≠ 0 := fun q => y3 (List.eq_nil_of_length_eq_zero q)
          refine ⟨_, _, ρ, .bool false, W, ⟨rfl, rfl⟩, ?_, .bool _, hH, Ext.refl _ _ _⟩
          obtain ⟨i30, j30, _, _, hj, hjs, _⟩ := envOk.zinfo zc30
          refine Lib.run_overlaps_apart W 22 4 30 (envOk.underP un22) j30.size (fun w => by simp [sizeOf, typeInfo, hj]) _ _ _ _ _ _ hb x.elem y.elem D1.size D2.size ?_ ?_ (by rw [b2]; omega) ?_ ?_
          · simp [World.shape?, a1]
          · simp [World.shape?, b1]
          · have := a7 x1 (r1.base + oq) (by rw [x2]; omega) (by rw [if_pos x3]; omega)
            simp only [World.frozen?, a1]
            simpa using this
          · have := a7 x1 D1.size (by rw [x2, a2]; omega) (by rw [if_pos x3, a2]; omega)
            simp only [World.frozen?, a1]
            simpa using this
theorem ReadSl.srcN {h : H} {v : Value} {es : List Ent} (r : ReadSl h v es) {n : Nat} (hn : n ≤ es.length) : srcCells h 11 n v = some (flatE (es.take n)) := by
  cases r with
  | nil =>
    have : n = 0 := by simpa using hn
    subst this; rfl
  | «at» b o c _ hr hc =>
    obtain ⟨x, hx, _, ht⟩ := hr.row
    show (bif Nat.beq (n * 11) 0 then some [] else X.loadCells h ⟨b, o, none⟩ (n * 11)) = _
    rw [natBeq_eq]
    by_cases e : n * 11 = 0
    · have : n = 0 := by omega
      subst this; rfl
    · simp only [e, decide_false, cond_false]
      show (h.row b).bind _ = _
      rw [hx]
      show takeN (n * 11) (dropN o x.cs) = _
      have hlen : es.length * 11 ≤ (x.cs.drop o).length := by
        have := congrArg List.length ht
        rw [List.length_take, flatE_len] at this; omega
      rw [dropN_eq, takeN_ok (by omega), ← flatE_take, ← ht, List.take_take]
      congr 2; omega
theorem copy_row {h : H} {b : Nat} {L : List Ent} (hr : h.row b = some ⟨flatE L, 30, 0, 0, false⟩) {j dl dc : Nat} {s : Value} {fs : List Ent} (r : ReadSl h s fs) {n : Nat} (hn : n = min fs.length dl) (hj : j + n ≤ L.length) (h0 : n ≠ 0) {K : Value → H → Prop}
    (hK : K (vInt n) (h.put b (.row ⟨flatE (setE L j (fs.take n)), 30, 0, 0, false⟩))) : blt EE h .copy #[22, 22] [.slice (some ⟨b, j * 11, none⟩) dl dc, s] K := by
  obtain ⟨r1, _⟩ := r.src
  have hl : (fs.take n).length = n := by simp; omega
  have : builtinR EE h .copy #[22, 22] [.slice (some ⟨b, j * 11, none⟩) dl dc, s] = some (.val (vInt n) (h.put b (.row ⟨flatE (setE L j (fs.take n)), 30, 0, 0, false⟩))) := by
    show copyV EE h 22 (.slice (some ⟨b, j * 11, none⟩) dl dc) s = _
    unfold copyV
    rw [un22]
    simp only [Option.bind_some, sz30, r1]
    have e : Nat.min fs.length dl = n := hn.symm
    rw [e, r.srcN (by omega)]
    simp only [Option.bind_some]
    rw [natBeq_eq]
    have e0 : ¬ n * 11 = 0 := by omega
    simp only [e0, decide_false, cond_false]
    rw [store_flat hr j (fs.take n) (by rw [hl]; exact hj)]; rfl
  unfold blt
  rw [this]
  exact hK
def insE (es : List Ent) (i : Nat) (e : Ent) : List Ent := es.take i ++ e :: es.drop i
theorem appMake_own {h0 h : H} {L : List Ent} {b i m : Nat} (hf : Fr h0 h) (k1 : b < h.next) (k2 : h.row b = some ⟨flatE L, 30, 0, 0, false⟩) (hi : i ≤ L.length) (h1 : i ≤ big) (h2 : m ≤ big) (hroom : ¬ i + m ≤ L.length) {K : Value → H → Prop}
    (hK : ∀ L' : List Ent, i + m ≤ L'.length → L'.take i = L.take i → K (.slice (some ⟨h.next, 0, none⟩) (i + m) L'.length) (X.newRow h 30 (flatE L') 0)) : appP EE h #[22, 3] (.slice (some ⟨b, 0, none⟩) i L.length) (vInt m) K := by
  have hbb : big = 10000000000 := rfl
  refine ⟨.inr (.inr ?_)⟩
  show appMake EE h [22, 3] (.slice (some ⟨b, 0, none⟩) i L.length) (vInt m) K
  have R := read_row k1 k2 0 i L.length (by omega) hi
  obtain ⟨_, o2⟩ := R.src
  have hl : ((L.drop 0).take i).length = i := by simp; omega
  rw [hl, Nat.zero_mul, List.drop_zero] at o2
  unfold appMake
  show bindO (some 22) _
  rw [bindO_some, un22, bindO_some]
  show bindO (some 3) _
  rw [bindO_some, un3, bindO_some]
  show bindO (EE.size 30) _
  rw [sz30, bindO_some, zc30, bindO_some]
  rw [o2, bindO_some]
  rw [show X.openEnd h (some ⟨b, 0, none⟩) L.length = some false from by show (h.row b).map _ = _; rw [k2]; rfl, bindO_some]
  show (bif Nat.ble (i + m) L.length then False else _)
  rw [natBle_eq]
  simp only [hroom, decide_false, cond_false]
  have hz : zeros [.int .i64 0, .int .i64 0, .int .i64 0, .string ⟨⟨[]⟩⟩, .int .i64 0, .bool false, .string ⟨⟨[]⟩⟩, .string ⟨⟨[]⟩⟩, .string ⟨⟨[]⟩⟩, .bool false, .int .i64 0] m = flatE (List.replicate m z0) := zeros_flat m
  rw [hz]
  obtain ⟨ii, hii, hr⟩ := room30 (n := i) (m := m) h1 h2
  unfold appNew
  rw [hii, bindO_some, zc30, bindO_some]
  have hc : (Nat.ble ((i + m + 64) * 4 * ii.bytes) 70368744177664 && Nat.ble (i + m) 70368744177664 && Nat.beq (len (α := Value) [.int .i64 0, .int .i64 0, .int .i64 0, .string ⟨⟨[]⟩⟩, .int .i64 0, .bool false, .string ⟨⟨[]⟩⟩, .string ⟨⟨[]⟩⟩, .string ⟨⟨[]⟩⟩, .bool false, .int .i64 0]) 11) = true := by
    rw [natBle_eq, natBle_eq, len_eq]
    simp only [hr, decide_true, Bool.true_and, Bool.and_eq_true, decide_eq_true_eq]
    exact ⟨by omega, rfl⟩
  rw [hc]
  show ∀ G, _ → _
  intro G hG
  have hz : zeros [.int .i64 0, .int .i64 0, .int .i64 0, .string ⟨⟨[]⟩⟩, .int .i64 0, .bool false, .string ⟨⟨[]⟩⟩, .string ⟨⟨[]⟩⟩, .string ⟨⟨[]⟩⟩, .bool false, .int .i64 0] (G - (i + m)) = flatE (List.replicate (G - (i + m)) z0) := zeros_flat _
  rw [app_eq, app_eq, hz, ← flatE_app, ← flatE_app]
  have hl2 : (L.take i).length = i := by simp; omega
  have e1 : (L.take i ++ List.replicate m z0 ++ List.replicate (G - (i + m)) z0).length = G := by simp; omega
  have := hK (L.take i ++ List.replicate m z0 ++ List.replicate (G - (i + m)) z0) (by rw [e1]; exact hG) (by rw [List.append_assoc, List.take_append_of_le_length (by omega), List.take_take]; congr 1; omega)
  rw [e1] at this
  exact this
theorem slices_Insert_res {h0 h : H} {v : Value} {es : List Ent} (hf : Fr h0 h) (o : OwnSl h0 h v es) (hb : es.length < big) {i : Nat} (hi : i ≤ es.length) {e : Ent} {q : Nat} (hq : h.row q = some ⟨e.cells, 30, 0, 0, false⟩) (hql : q < h.next) (hne : ∀ b n c, v = .slice (some ⟨b, 0, none⟩) n c → q ≠ b) :
    CP n_slices_Insert__api_Entry_api_Entry_ [v, vInt i, .slice (some ⟨q, 0, none⟩) 1 1] h (fun w h' => Fr h0 h' ∧ OwnSl h0 h' w (insE es i e)) := by
  have hbb : big = 10000000000 := rfl
  have RV : ReadSl h (.slice (some ⟨q, 0, none⟩) 1 1) [e] := .at q 0 1 [e] ⟨hql, _, hq, rfl, by simp [flatE, Ent.cells]⟩ (Nat.le_refl _)
  refine .call (slices_Insert__api_Entry_api_Entry__ok ?_)
  unfold slices_Insert__api_Entry_api_Entry_
  obtain ⟨w1, hw1, _⟩ := slice_lo o.read hi
  rw [hw1, bindO_some, blt_len_slice un22]
  simp
  rw [o.read.len]
  by_cases hin : i = es.length
  · subst hin
    simp
    refine app_own hf o RV (by omega) (by simp; omega) ?_
    intro v' h' f' o'
    refine ⟨f', ?_⟩
    unfold insE
    simpa using o'
  · cases o with
    | nil => simp at hi hin; omega
    | «at» b n L k0 k1 k2 k3 =>
      have hn : (L.take n).length = n := by simp; omega
      rw [hn] at hi hin hb ⊢
      have hin' : i < n := by omega
      have hx : ∃ x, h.row b = some x ∧ x.osz = 0 := ⟨_, k2, rfl⟩
      have hqb : q ≠ b := hne b n L.length rfl
      have hcap : ∀ K : Value → H → Prop, K (vInt L.length) h → capP EE h [22] (.slice (some ⟨b, 0, none⟩) n L.length) K := by
        intro K hk
        unfold capP
        show bindO (some 22) _
        rw [bindO_some, un22, bindO_some]
        show bindO (X.openEnd h (some ⟨b, 0, none⟩) L.length) _
        rw [show X.openEnd h (some ⟨b, 0, none⟩) L.length = some false from by show (h.row b).map _ = _; rw [k2]; rfl, bindO_some]
        exact hk
      have RVo : ∀ h' : H, h'.row q = some ⟨e.cells, 30, 0, 0, false⟩ → h.next ≤ h'.next → ReadSl h' (.slice (some ⟨q, 0, none⟩) 1 1) [e] := fun h' e1 e2 => .at q 0 1 [e] ⟨by omega, _, e1, rfl, by simp [flatE, Ent.cells]⟩ (Nat.le_refl _)
      have w1 : IntKind.i64.wrap ((n : Int) + 1) = ((n + 1 : Nat) : Int) := by rw [wrap64 (by omega) (by omega)]; rfl
      have w2 : IntKind.i64.wrap ((i : Int) + 1) = ((i + 1 : Nat) : Int) := by rw [wrap64 (by omega) (by omega)]; rfl
      have w3 : IntKind.i64.wrap (((n + 1 : Nat) : Int) - (i : Int)) = ((n + 1 - i : Nat) : Int) := by rw [wrap64 (by omega) (by omega)]; omega
      simp only [vInt, Go.X.binOp_ieql, Go.X.binOp_add, Go.X.binOp_sub, bindO_some, condP_bool, w1, w2, w3]
      rw [if_neg (by simp; omega)]
      refine hcap _ ?_
      simp only [vInt, Go.X.binOp_gtr, bindO_some, condP_bool, decide_eq_true_eq]
      have hfs : ((L.drop i).take (n - i)).length = n - i := by simp; omega
      have hfs2 : (L.take n).drop i = (L.drop i).take (n - i) := List.drop_take ..
      have e5 : insE (L.take n) i e = L.take i ++ [e] ++ (L.drop i).take (n - i) := by
        unfold insE
        rw [hfs2, List.take_take, show min i n = i by omega]
        simp
      by_cases hcase : L.length < n + 1
      · rw [if_pos (by omega)]
        have hLn : L.length = n := by omega
        rw [sliceV_cl hx (m := L.length) (mx := none) rfl (bound_some i _ _ (by omega)) (lo := none) (l := 0) rfl (by omega) rfl]
        rw [show (if L.length = 0 then (⟨b, 0, none⟩ : Addr) else ⟨b, 0 + 0 * 11, none⟩) = ⟨b, 0, none⟩ by split <;> simp, bindO_some, Nat.sub_zero, Nat.sub_zero]
        refine appMake_own hf k1 k2 (by omega) (by omega) (by omega) (by omega) ?_
        intro L' hL' htk
        rw [show i + (n + 1 - i) = n + 1 by omega] at hL' ⊢
        have r' : (X.newRow h 30 (flatE L') 0).row h.next = some ⟨flatE L', 30, 0, 0, false⟩ := by rw [row_newRow, if_pos rfl]
        have rb : (X.newRow h 30 (flatE L') 0).row b = some ⟨flatE L, 30, 0, 0, false⟩ := by rw [row_newRow, if_neg (by omega)]; exact k2
        have rq : (X.newRow h 30 (flatE L') 0).row q = some ⟨e.cells, 30, 0, 0, false⟩ := by rw [row_newRow, if_neg (by omega)]; exact hq
        have fr' : Fr h0 (X.newRow h 30 (flatE L') 0) := hf.newRow _ _ _
        have nx : (X.newRow h 30 (flatE L') 0).next = h.next + 1 := rfl
        generalize X.newRow h 30 (flatE L') 0 = h' at *
        rw [sliceV_cl ⟨_, r', rfl⟩ (m := L'.length) (mx := none) (hi := none) rfl (hh := n + 1) rfl (bound_some i _ _ (by omega)) (by omega) rfl]
        rw [if_neg (by omega), bindO_some, Nat.zero_add]
        refine copy_row r' (RVo h' rq (by omega)) (n := 1) (by simp; omega) (by omega) (by omega) ?_
        have e1 : setE L' i ([e].take 1) = setE L' i [e] := rfl
        rw [e1]
        have s1 := setE_len L' i [e] (by simp; omega)
        have r2 : (h'.put h.next (.row ⟨flatE (setE L' i [e]), 30, 0, 0, false⟩)).row h.next = some ⟨flatE (setE L' i [e]), 30, 0, 0, false⟩ := by rw [row_put, if_pos rfl]
        have rb2 : (h'.put h.next (.row ⟨flatE (setE L' i [e]), 30, 0, 0, false⟩)).row b = some ⟨flatE L, 30, 0, 0, false⟩ := by rw [row_put, if_neg (by omega)]; exact rb
        have fr2 : Fr h0 (h'.put h.next (.row ⟨flatE (setE L' i [e]), 30, 0, 0, false⟩)) := fr'.put _ hf.next
        have nx2 : (h'.put h.next (.row ⟨flatE (setE L' i [e]), 30, 0, 0, false⟩)).next = h.next + 1 := nx
        generalize h'.put h.next (.row ⟨flatE (setE L' i [e]), 30, 0, 0, false⟩) = h2 at *
        rw [sliceV_cl ⟨_, r2, rfl⟩ (m := L'.length) (mx := none) (hi := none) rfl (hh := n + 1) rfl (bound_some (i + 1) _ _ (by omega)) (by omega) rfl]
        rw [if_neg (by omega), bindO_some, Nat.zero_add]
        rw [sliceV_cl ⟨_, rb2, rfl⟩ (m := L.length) (mx := none) (hi := none) rfl (hh := n) rfl (bound_some i _ _ (by omega)) (by omega) rfl]
        rw [if_neg (by omega), bindO_some, Nat.zero_add]
        refine copy_row r2 (read_row (by omega) rb2 i (n - i) _ (by omega) (by omega)) (n := n - i) (by rw [hfs]; omega) (by rw [s1]; omega) (by omega) ?_
        refine ⟨fr2.put _ hf.next, ?_⟩
        have e2 : ((L.drop i).take (n - i)).take (n - i) = (L.drop i).take (n - i) := List.take_of_length_le (by rw [hfs]; exact Nat.le_refl _)
        rw [e2]
        have s2 := setE_len (setE L' i [e]) (i + 1) ((L.drop i).take (n - i)) (by rw [s1, hfs]; omega)
        have := OwnSl.at (h0 := h0) (h := h2.put h.next (.row ⟨flatE (setE (setE L' i [e]) (i + 1) ((L.drop i).take (n - i))), 30, 0, 0, false⟩)) h.next (n + 1) _ hf.next (by show h.next < h2.next; omega) (by rw [row_put, if_pos rfl]) (by rw [s2, s1]; exact hL')
        rw [s2, s1] at this
        have t1 := setE_take (setE L' i [e]) (i + 1) ((L.drop i).take (n - i)) (by rw [s1]; omega)
        rw [hfs, show i + 1 + (n - i) = n + 1 by omega] at t1
        have t2 := setE_take L' i [e] (by omega)
        rw [t1, show i + 1 = i + [e].length from rfl, t2, htk] at this
        rw [e5]
        exact this
      · rw [if_neg (by omega)]
        rw [sliceV_cl hx (m := L.length) (mx := none) rfl (bound_some (n + 1) _ _ (by omega)) (lo := none) (l := 0) rfl (by omega) rfl]
        rw [show (if L.length = 0 then (⟨b, 0, none⟩ : Addr) else ⟨b, 0 + 0 * 11, none⟩) = ⟨b, 0, none⟩ by split <;> simp, bindO_some, Nat.sub_zero, Nat.sub_zero]
        have sl1 : ∀ (h' : H) (L' : List Ent), h'.row b = some ⟨flatE L', 30, 0, 0, false⟩ → sliceV EE h' 22 (.slice (some ⟨b, 0, none⟩) (n + 1) L.length) (some (vInt ((i + 1 : Nat) : Int))) none none = some (.slice (some ⟨b, (i + 1) * 11, none⟩) (n - i) (L.length - (i + 1))) := by
          intro h' L' r
          rw [sliceV_cl ⟨_, r, rfl⟩ (m := L.length) (mx := none) (hi := none) rfl (hh := n + 1) rfl (bound_some (i + 1) _ _ (by omega)) (by omega) rfl]
          rw [if_neg (by omega), Nat.zero_add, show n + 1 - (i + 1) = n - i by omega]
        have sl2 : ∀ (h' : H) (L' : List Ent), h'.row b = some ⟨flatE L', 30, 0, 0, false⟩ → sliceV EE h' 22 (.slice (some ⟨b, 0, none⟩) (n + 1) L.length) (some (vInt (i : Int))) none none = some (.slice (some ⟨b, i * 11, none⟩) (n + 1 - i) (L.length - i)) := by
          intro h' L' r
          rw [sliceV_cl ⟨_, r, rfl⟩ (m := L.length) (mx := none) (hi := none) rfl (hh := n + 1) rfl (bound_some i _ _ (by omega)) (by omega) rfl]
          rw [if_neg (by omega), Nat.zero_add]
        rw [sl1 h L k2, bindO_some]
        have hLne : flatE L ≠ [] := by
          intro q
          have := flatE_len L
          rw [q] at this; simp at this; omega
        refine .ext ((overlaps_apart hqb hq rfl rfl rfl (Nat.zero_le _) k2 rfl rfl hLne).mono ?_)
        rintro v h' ⟨rfl, rfl⟩
        simp only [unOp_not, bindO_some, condP_bool, Bool.not_false, if_true]
        rw [sl1 h' L k2, bindO_some, sl2 h' L k2, bindO_some]
        have hfs3 : ((L.drop i).take (n + 1 - i)).length = n + 1 - i := by simp; omega
        refine copy_row k2 (read_row k1 k2 i (n + 1 - i) _ (by omega) (by omega)) (n := n - i) (by rw [hfs3]; omega) (by omega) (by omega) ?_
        have e2 : ((L.drop i).take (n + 1 - i)).take (n - i) = (L.drop i).take (n - i) := by rw [List.take_take]; congr 1; omega
        rw [e2]
        have s1 := setE_len L (i + 1) ((L.drop i).take (n - i)) (by rw [hfs]; omega)
        have r2 : (h'.put b (.row ⟨flatE (setE L (i + 1) ((L.drop i).take (n - i))), 30, 0, 0, false⟩)).row b = some ⟨flatE (setE L (i + 1) ((L.drop i).take (n - i))), 30, 0, 0, false⟩ := by rw [row_put, if_pos rfl]
        have rq2 : (h'.put b (.row ⟨flatE (setE L (i + 1) ((L.drop i).take (n - i))), 30, 0, 0, false⟩)).row q = some ⟨e.cells, 30, 0, 0, false⟩ := by rw [row_put, if_neg hqb]; exact hq
        have fr2 : Fr h0 (h'.put b (.row ⟨flatE (setE L (i + 1) ((L.drop i).take (n - i))), 30, 0, 0, false⟩)) := hf.put _ k0
        have nx2 : (h'.put b (.row ⟨flatE (setE L (i + 1) ((L.drop i).take (n - i))), 30, 0, 0, false⟩)).next = h'.next := rfl
        generalize h'.put b (.row ⟨flatE (setE L (i + 1) ((L.drop i).take (n - i))), 30, 0, 0, false⟩) = h2 at *
        rw [sl2 h2 _ r2, bindO_some]
        refine copy_row r2 (RVo h2 rq2 (by omega)) (n := 1) (by simp; omega) (by rw [s1]; omega) (by omega) ?_
        refine ⟨fr2.put _ k0, ?_⟩
        have e1 : ∀ X : List Ent, setE X i ([e].take 1) = setE X i [e] := fun X => rfl
        rw [e1]
        have s2 := setE_len (setE L (i + 1) ((L.drop i).take (n - i))) i [e] (by rw [s1]; simp; omega)
        have := OwnSl.at (h0 := h0) (h := h2.put b (.row ⟨flatE (setE (setE L (i + 1) ((L.drop i).take (n - i))) i [e]), 30, 0, 0, false⟩)) b (n + 1) _ k0 (by show b < h2.next; omega) (by rw [row_put, if_pos rfl]) (by rw [s2, s1]; omega)
        rw [s2, s1] at this
        have t : (setE (setE L (i + 1) ((L.drop i).take (n - i))) i [e]).take (n + 1) = insE (L.take n) i e := by
          have a1 : (setE L (i + 1) ((L.drop i).take (n - i))).take i = L.take i := by
            have := setE_take0 L (i + 1) ((L.drop i).take (n - i)) (by omega)
            have h2 := congrArg (List.take i) this
            rw [List.take_take, List.take_take, show min i (i + 1) = i by omega] at h2
            exact h2
          have a2 : (setE L (i + 1) ((L.drop i).take (n - i))).drop (i + 1) = (L.drop i).take (n - i) ++ L.drop (i + 1 + (n - i)) := by
            unfold setE
            rw [hfs, List.append_assoc]
            have : (L.take (i + 1)).length = i + 1 := by simp; omega
            conv => lhs; arg 1; rw [← this]
            rw [List.drop_left]
          rw [e5]
          show (List.take i (setE L (i + 1) ((L.drop i).take (n - i))) ++ [e] ++ List.drop (i + 1) (setE L (i + 1) ((L.drop i).take (n - i)))).take (n + 1) = _
          rw [a1, a2, ← List.append_assoc]
          have : (L.take i ++ [e] ++ (L.drop i).take (n - i)).length = n + 1 := by simp; omega
          rw [← this, List.take_left]
        rw [t] at this
        exact this
end Go.Proofs.YthbmhdlbphkljaaGreatDoor
