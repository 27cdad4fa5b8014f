/- A part of the evaluator of the model, and of the proof that what it answers is what a call comes to. No conditions of its own. -/
import Derived.Test.YthbmhdlbphkljaaGreatDoorYa
namespace Go.X
open Go
variable {P : Program} {E : Env}

theorem lit_some {v : Value} {h : H} {x : Option Value} (e : x = some v) : lit x h = some (.val v h) := by subst e; rfl
theorem bind_eq {α β : Type} {x : Option α} {a : α} {f : α → Option β} (h : x = some a) : x.bind f = f a := by subst h; rfl
/-- what a built-in function comes to -/
def BltW (P : Program) (h : H) (b : Builtin) (ats : Array TypeId) (args : List Value) (K : Value → H → Prop) : Prop :=
  (∃ v h', K v h') ∧ ∀ (ρ : Rho) (W : World) (ty : TypeId) (consts : Array Bool) (XS : List Value), VRels ρ args XS → HRel ρ h W →
    ∃ ρ' W' v V h', (Go.builtin b ats ty consts XS.toArray).run P W = .ok (.value V) W' ∧ K v h' ∧ VRel ρ' v V ∧ HRel ρ' h' W' ∧ Ext ρ h W ρ' h' W'
theorem zeroCells_rel {ρ : Rho} {z : List Value} {zv : Value} {n : Nat} (hzc : zv.cells.toList = z) (hzr : VRels ρ z zv.cells.toList) : VRels ρ (zeros z n) (Builtin.zeroCells zv.cells n).toList := by
  have hzlen : z.length = zv.cells.size := by rw [← hzc, Array.length_toList]
  refine VRels.of_get (by rw [zeros_length, hzlen]; simp [Builtin.zeroCells]) fun i v e => ?_
  rw [zeros_get] at e
  split at e
  · rename_i q
    obtain ⟨V, hV, hvr⟩ := hzr.get _ _ e
    refine ⟨V, ?_, hvr⟩
    rw [hzlen] at q hV
    have hpos : i % zv.cells.size < zv.cells.size := Nat.mod_lt _ (by rcases Nat.eq_zero_or_pos zv.cells.size with g | g
                                                                      · rw [g] at q; omega
                                                                      · exact g)
    rw [Array.getElem?_toList, Array.getElem?_eq_getElem hpos] at hV
    cases hV
    simp [Builtin.zeroCells, q, hpos]
  · cases e
theorem openEnd_none {b of cp : Nat} {r : RI} {ρ : Rho} {h : H} {W : World} (hH : HRel ρ h W) (hr : ρ b = some r) (ho : openEnd h (some ⟨b, of, none⟩) cp = some false) {l C : Nat} {A : Addr} (hs : SRel r of l cp A C) : C = cp := by
  obtain ⟨x, hx, hxo, hxn, hoe⟩ := openEnd_some hH hr ho
  unfold SRel at hs
  split at hs
  · rename_i q
    rw [decide_eq_true q] at hoe; cases hoe
  · exact hs.2
theorem appAny_sound (hE : EnvOk P E) {ρ : Rho} {h : H} {W : World} (hH : HRel ρ h W) (ats : Array TypeId) (ty : TypeId) {s x S X : Value} (hs : VRel ρ s S) (hx : VRel ρ x X) {K : Value → H → Prop} (hr : appAny E h ats.toList s x K) :
    ∃ ρ' W' v V h', (Builtin.append_ ats ty #[S, X]).run P W = .ok V W' ∧ K v h' ∧ VRel ρ' v V ∧ HRel ρ' h' W' ∧ Ext ρ h W ρ' h' W' := by
  obtain ⟨st, hst, hr0⟩ := bindO_iff.1 hr
  clear hr
  rw [nthA_eq, Array.getElem?_toList] at hst
  obtain ⟨u, hu, hr⟩ := bindO_iff.1 hr0
  clear hr0
  have hU := hE.underP hu
  split at hr
  · rename_i elem base l cp
    obtain ⟨sz, hsz, hr⟩ := bindO_iff.1 hr
    obtain ⟨zs, hzs, hr⟩ := bindO_iff.1 hr
    cases zs with
    | true => exact hr.elim
    | false =>
      obtain ⟨m, hm, hr⟩ := bindO_iff.1 (show bindO (lenOf x) _ from hr)
      obtain ⟨new, hnw, hr⟩ := bindO_iff.1 hr
      obtain ⟨old, hold, hr⟩ := bindO_iff.1 hr
      obtain ⟨o, ho, hr⟩ := bindO_iff.1 hr
      cases o with
      | true => exact hr.elim
      | false =>
        have hr2 : (bif Nat.ble (l + m) cp then False else appNew E h elem sz l m old new K) := hr
        rw [natBle_eq] at hr2
        by_cases hroom : l + m ≤ cp
        · simp only [hroom, decide_true, cond_true] at hr2
        · simp only [hroom, decide_false, cond_false] at hr2
          obtain ⟨i, hi, hr3⟩ := bindO_iff.1 hr2
          obtain ⟨z, hz, hr4⟩ := bindO_iff.1 hr3
          have hr5 : (bif (Nat.ble ((l + m + 64) * 4 * i.bytes) 70368744177664 && Nat.ble (l + m) 70368744177664 && Nat.beq (len z) sz) then ∀ G, l + m ≤ G → K (.slice (some ⟨h.next, 0, none⟩) (l + m) G) (newRow h elem (app (app old new) (zeros z (G - (l + m)))) 0) else False) := hr4
          cases hcond : (Nat.ble ((l + m + 64) * 4 * i.bytes) 70368744177664 && Nat.ble (l + m) 70368744177664 && Nat.beq (len z) sz) with
          | false => rw [hcond] at hr5; exact hr5.elim
          | true =>
            rw [hcond] at hr5
            have hK : ∀ G, l + m ≤ G → K (.slice (some ⟨h.next, 0, none⟩) (l + m) G) (newRow h elem (app (app old new) (zeros z (G - (l + m)))) 0) := hr5
            simp only [natBeq_eq, natBle_eq, len_eq, Bool.and_eq_true, decide_eq_true_eq] at hcond
            obtain ⟨⟨hfit, h63⟩, hzl⟩ := hcond
            have hxt : ∀ t, ats[1]? = some t → ∃ d, P.underlying t = some d ∧ isIntD d = false := by
              intro t ht
              rw [nthA_eq, Array.getElem?_toList, ht] at hzs
              obtain ⟨d, hd, hi⟩ := map_some hzs
              exact ⟨d, hE.underP hd, hi⟩
            have hl := lenOf_sound (P := P) hm hx W
            obtain ⟨BB, CC, hS⟩ : ∃ B C, S = .slice B l C := by
              rcases lenOf_rel (x := .slice base l cp) (L := l) rfl hs with ⟨B, C, e⟩ | ⟨s', e, _⟩
              · exact ⟨B, C, e⟩
              · subst e; cases hs
            subst hS
            have hCC : CC = cp := by
              cases hs with
              | snil => rfl
              | slice b of _ _ A _ r hrr hsr => exact openEnd_none hH hrr ho hsr
            subst hCC
            obtain ⟨i', j, zv, hi', hj, hjs, hjb, hjz, hzc, hzr⟩ := hE.zinfo hz
            rw [hi] at hi'; cases hi'
            have hisz : i.size = sz := by
              obtain ⟨i2, hi2, hs'⟩ := bind_some hsz
              rw [show E.types.get elem = some i from hi] at hi2; cases hi2; cases hs'; rfl
            have hH3 : HRel ρ h W.drew := hH.drew rfl
            obtain ⟨OLD, hfo, hro, hlo⟩ := src_sound (P := P) hH3 hs (L := l) rfl (Nat.le_refl l) hold
            obtain ⟨NEW2, hfn2, hnew2, hlen⟩ := src_sound (P := P) hH3 hx hm (Nat.le_refl m) hnw
            have hzz : zv.cells.size = sz := by rw [← hzl, ← hzc, Array.length_toList]
            have hns : Builtin.nextslicecap (l + m) CC * j.bytes ≤ 281474976710656 := by
              have h1 : Builtin.nextslicecap (l + m) CC * j.bytes ≤ 2 * (l + m) * j.bytes := Nat.mul_le_mul_right _ (nextslicecap_le (by omega))
              have h2 : 2 * (l + m) * j.bytes ≤ (l + m + 64) * 4 * j.bytes := Nat.mul_le_mul_right _ (by omega)
              rw [hjb] at *
              omega
            have hG := grownCap_ge W (l + m) CC elem
            generalize hGG : grownCap W (l + m) CC elem = G at *
            have hX3 : Ext ρ h W ρ h W.drew := Ext.drew rfl rfl rfl rfl
            have hcs : app (app old new) (zeros z (G - (l + m))) = old ++ new ++ zeros z (G - (l + m)) := by rw [app_eq, app_eq]
            have hzlen : z.length = zv.cells.size := by rw [← hzc, Array.length_toList]
            have hzr2 : VRels ρ (zeros z (G - (l + m))) (Builtin.zeroCells zv.cells (G - (l + m))).toList := by
              refine VRels.of_get (by rw [zeros_length, hzlen]; simp [Builtin.zeroCells]) fun i v e => ?_
              rw [zeros_get] at e
              split at e
              · rename_i q
                obtain ⟨V, hV, hvr⟩ := (hzr ρ).get _ _ e
                refine ⟨V, ?_, hvr⟩
                rw [hzlen] at q hV
                have hpos : i % zv.cells.size < zv.cells.size := Nat.mod_lt _ (by rcases Nat.eq_zero_or_pos zv.cells.size with g | g; · rw [g] at q; omega
                                                                                  · exact g)
                rw [Array.getElem?_toList, Array.getElem?_eq_getElem hpos] at hV
                cases hV
                simp [Builtin.zeroCells, q, hpos]
              · cases e
            have hrel : VRels ρ (old ++ new ++ zeros z (G - (l + m))) (OLD ++ NEW2 ++ (Builtin.zeroCells zv.cells (G - (l + m))).toList) := (hro.append hnew2).append hzr2
            obtain ⟨k1, k2⟩ := row_new (e := elem) (osz := 0) (c := app (app old new) (zeros z (G - (l + m)))) (C := OLD.toArray ++ NEW2.toArray ++ Builtin.zeroCells zv.cells (G - (l + m))) (W' := W.drew.alloc (.cells (OLD.toArray ++ NEW2.toArray ++ Builtin.zeroCells zv.cells (G - (l + m))) elem)) hH3 (by rw [hcs, hrel.length]; simp; omega) (by
              intro i v e
              rw [hcs] at e
              obtain ⟨V, hV, hvr⟩ := hrel.get i v e
              refine ⟨V, ?_, hvr⟩
              rw [← hV, ← Array.getElem?_toList]; simp) (noF _) rfl rfl rfl rfl
            refine ⟨_, _, _, _, _, run_append_out hst hU hj (hjs.trans hisz) hjz hxt rfl hl hfo hfn2 hroom h63 hns, hK G hG, ?_, ?_, hX3.trans (by rw [hGG]; exact k2)⟩
            · rw [hGG]
              refine .slice _ _ _ _ _ _ _ (Rho.add_same _ _ _) ?_
              unfold SRel
              rw [if_neg (fun q => q.1 rfl)]
              exact ⟨rfl, rfl⟩
            · rw [hGG]; exact k1
  · exact hr.elim
theorem appAny_live {h : H} {ats : List TypeId} {s x : Value} {K : Value → H → Prop} (hr : appAny E h ats s x K) : ∃ v h', K v h' := by
  obtain ⟨st, hst, hr0⟩ := bindO_iff.1 hr
  clear hr
  obtain ⟨u, hu, hr⟩ := bindO_iff.1 hr0
  clear hr0
  split at hr
  · rename_i elem base l cp
    obtain ⟨sz, hsz, hr⟩ := bindO_iff.1 hr
    obtain ⟨zs, hzs, hr⟩ := bindO_iff.1 hr
    cases zs with
    | true => exact hr.elim
    | false =>
      obtain ⟨m, hm, hr⟩ := bindO_iff.1 (show bindO (lenOf x) _ from hr)
      obtain ⟨new, hnw, hr⟩ := bindO_iff.1 hr
      obtain ⟨old, hold, hr⟩ := bindO_iff.1 hr
      obtain ⟨o, ho, hr⟩ := bindO_iff.1 hr
      cases o with
      | true => exact hr.elim
      | false =>
        have hr2 : (bif Nat.ble (l + m) cp then False else appNew E h elem sz l m old new K) := hr
        cases hb : Nat.ble (l + m) cp with
        | true => rw [hb] at hr2; exact hr2.elim
        | false =>
          rw [hb] at hr2
          obtain ⟨i, hi, hr3⟩ := bindO_iff.1 (show appNew E h elem sz l m old new K from hr2)
          obtain ⟨z, hz, hr4⟩ := bindO_iff.1 hr3
          have hr5 : (bif (Nat.ble ((l + m + 64) * 4 * i.bytes) 70368744177664 && Nat.ble (l + m) 70368744177664 && Nat.beq (len z) sz) then ∀ G, l + m ≤ G → K (.slice (some ⟨h.next, 0, none⟩) (l + m) G) (newRow h elem (app (app old new) (zeros z (G - (l + m)))) 0) else False) := hr4
          cases hcond : (Nat.ble ((l + m + 64) * 4 * i.bytes) 70368744177664 && Nat.ble (l + m) 70368744177664 && Nat.beq (len z) sz) with
          | false => rw [hcond] at hr5; exact hr5.elim
          | true =>
            rw [hcond] at hr5
            exact ⟨_, _, hr5 (l + m) (Nat.le_refl _)⟩
  · exact hr.elim
theorem appAny_blt (hE : EnvOk P E) {h : H} {ats : Array TypeId} {s x : Value} {K : Value → H → Prop} (hh : appAny E h ats.toList s x K) : BltW P h .append ats [s, x] K := by
  refine ⟨appAny_live hh, fun ρ W ty consts XS hX hH => ?_⟩
  cases hX with
  | cons _ S _ L1 hs hl =>
    cases hl with
    | cons _ X _ L2 hx hl2 =>
      cases hl2
      obtain ⟨ρ', W', v, V, h', k0, kk, k⟩ := appAny_sound (P := P) hE hH ats ty hs hx hh
      exact ⟨ρ', W', v, V, h', run_RVal k0, kk, k⟩
theorem bif_P {b : Bool} {x y : Prop} (h : bif b then x else y) : (b = true ∧ x) ∨ (b = false ∧ y) := by
  cases b with
  | true => exact .inl ⟨rfl, h⟩
  | false => exact .inr ⟨rfl, h⟩
theorem capP_blt (hE : EnvOk P E) {h : H} {ats : Array TypeId} {s : Value} {K : Value → H → Prop} (hh : capP E h ats.toList s K) : BltW P h .cap ats [s] K := by
  obtain ⟨st, hst, h1⟩ := bindO_iff.1 hh
  clear hh
  rw [nthA_eq, Array.getElem?_toList] at hst
  obtain ⟨u, hu, h2⟩ := bindO_iff.1 h1
  clear h1
  have hU := hE.underP hu
  split at h2
  · rename_i elem base l c
    obtain ⟨o, ho, h3⟩ := bindO_iff.1 h2
    rcases bif_P h3 with ⟨_, q⟩ | ⟨eo, k⟩
    · exact q.elim
    subst eo
    refine ⟨⟨_, _, k⟩, fun ρ W ty consts XS hX hH => ?_⟩
    cases hX with
    | cons _ S _ L1 hs hl =>
      cases hl
      have hcap : ∃ B, S = .slice B l c := by
        cases hs with
        | snil => exact ⟨_, rfl⟩
        | slice b of _ _ A C r hrr hsr => rw [openEnd_none hH hrr ho hsr]; exact ⟨_, rfl⟩
      obtain ⟨B, rfl⟩ := hcap
      refine ⟨ρ, W, _, .int .i64 c, h, ?_, k, .int _ _, hH, Ext.refl _ _ _⟩
      refine run_RVal (s := Builtin.cap_ ats ty #[.slice B l c]) ?_
      simp [Builtin.cap_, hst, run_under hU, goInt]
  · exact h2.elim
theorem clearP_blt (hE : EnvOk P E) {h : H} {ats : Array TypeId} {s : Value} {K : Value → H → Prop} (hh : clearP E h ats.toList s K) : BltW P h .clear ats [s] K := by
  obtain ⟨st, hst, h1⟩ := bindO_iff.1 hh
  clear hh
  rw [nthA_eq, Array.getElem?_toList] at hst
  obtain ⟨u, hu, h2⟩ := bindO_iff.1 h1
  clear h1
  have hU := hE.underP hu
  split at h2
  · refine ⟨⟨_, _, h2⟩, fun ρ W ty consts XS hX hH => ?_⟩
    cases hX with
    | cons _ S _ L1 hs hl =>
      cases hl
      cases hs
      refine ⟨ρ, W, _, undef, h, ?_, h2, VRel.undef ρ, hH, Ext.refl _ _ _⟩
      refine run_RVal (s := Builtin.clear_ ats ty _) ?_
      simp [Builtin.clear_, hst, run_under hU]; rfl
  · rename_i elem a n c
    rcases bif_P h2 with ⟨e0, k⟩ | ⟨e0, h3⟩
    · rw [natBeq_eq, decide_eq_true_eq] at e0
      subst e0
      refine ⟨⟨_, _, k⟩, fun ρ W ty consts XS hX hH => ?_⟩
      cases hX with
      | cons _ S _ L1 hs hl =>
        cases hl
        cases hs with
        | slice b of _ _ A C r hrr hsr =>
          refine ⟨ρ, W, _, undef, h, ?_, k, VRel.undef ρ, hH, Ext.refl _ _ _⟩
          refine run_RVal (s := Builtin.clear_ ats ty _) ?_
          simp [Builtin.clear_, hst, run_under hU]; rfl
    · rw [natBeq_eq, decide_eq_false_iff_not] at e0
      obtain ⟨z, hz, h4⟩ := bindO_iff.1 h3
      obtain ⟨h', hh', k⟩ := bindO_iff.1 h4
      refine ⟨⟨_, _, k⟩, fun ρ W ty consts XS hX hH => ?_⟩
      cases hX with
      | cons _ S _ L1 hs hl =>
        cases hl
        cases hs with
        | slice b of _ _ A C r hrr hsr =>
          obtain ⟨i', j, zv, hi', hj, hjs, hjb, hjz, hzc, hzr⟩ := hE.zinfo hz
          have hA := hsr.addr (.inl e0)
          subst hA
          have hzr2 := zeroCells_rel (n := n) hzc (hzr ρ)
          obtain ⟨W', k1, k2, k3⟩ := hH.store (P := P) hrr hh' hzr2
          refine ⟨ρ, W', _, undef, h', ?_, k, VRel.undef ρ, k2, k3⟩
          refine run_RVal (s := Builtin.clear_ ats ty _) ?_
          have hne : n ≠ 0 := e0
          cases n with
          | zero => exact absurd rfl hne
          | succ n =>
            simp [Builtin.clear_, hst, run_under hU, zeroValue, typeInfo, hj, hjz, k1]; rfl
  · exact h2.elim
theorem zeroCells_nil {zero : Array Value} {n : Nat} (h : n * zero.size = 0) : Builtin.zeroCells zero n = #[] := by
  unfold Builtin.zeroCells; rw [h]; simp
theorem run_append_make {W : World} {ats : Array TypeId} {ty st xt elem : TypeId} {S : Value} {sz l m C : Nat} {B : Option Addr} {OLD : List Value} {j : TypeInfo} {z : Value} {k k' : IntKind} (hst : ats[0]? = some st) (hU : P.underlying st = some (.slice elem)) (hx : ats[1]? = some xt) (hUx : P.underlying xt = some (.int k))
    (hj : P.info? elem = some j) (hjs : j.size = sz) (hz : j.zero = some z) (hzs : z.cells.size = sz)
    (hS : S = .slice B l C) (ho : (Builtin.firstCells sz l S).run P W.drew = .ok OLD.toArray W.drew) (hroom : ¬ l + m ≤ C) (hw : IntKind.i64.wrap ((m : Nat) : Int) = m) (hb : ((m : Nat) : Int) * (j.bytes : Int) ≤ 281474976710656)
    (h63 : l + m ≤ 70368744177664) (hfit : Builtin.nextslicecap (l + m) C * j.bytes ≤ 281474976710656) :
    (Builtin.append_ ats ty #[S, .int k' m]).run P W = .ok (.slice (some ⟨W.heap.size, 0, none⟩) (l + m) (grownCap W (l + m) C elem)) (W.drew.alloc (.cells (OLD.toArray ++ Builtin.zeroCells z.cells m ++ Builtin.zeroCells z.cells (grownCap W (l + m) C elem - (l + m))) elem)) := by
  subst hS
  subst hjs
  have n1 : ¬ (9223372036854775807 < ((l : Int) + (m : Int))) := by omega
  have n2 : ¬ (281474976710656 < Builtin.nextslicecap (l + m) C * j.bytes) := by omega
  have n3 : ¬ (281474976710656 < ((m : Nat) : Int) * (j.bytes : Int)) := by omega
  have n4 : ¬ (((m : Nat) : Int) < 0) := by omega
  by_cases hms : m * j.size = 0
  · have e0 := zeroCells_nil (zero := z.cells) (n := m) (by rw [hzs]; exact hms)
    rw [e0]
    simp [Builtin.append_, hst, hx, run_under hU, run_under hUx, sizeOf, typeInfo, zeroValue, hj, hz, ho, hroom, n1, n2, n3, n4, hw, hms, asInt, asIntOf, Question.forced, Go.newRow, grownCap]
  · simp [Builtin.append_, hst, hx, run_under hU, run_under hUx, sizeOf, typeInfo, zeroValue, hj, hz, ho, hroom, n1, n2, n3, n4, hw, hms, asInt, asIntOf, Question.forced, Go.newRow, grownCap]
theorem appNew_use {h : H} {elem : TypeId} {sz l m : Nat} {old new : List Value} {K : Value → H → Prop} (hh : appNew E h elem sz l m old new K) : ∃ i z, E.info elem = some i ∧ E.zcells elem = some z ∧ (l + m + 64) * 4 * i.bytes ≤ 70368744177664 ∧ l + m ≤ 70368744177664 ∧ z.length = sz ∧
    ∀ G, l + m ≤ G → K (.slice (some ⟨h.next, 0, none⟩) (l + m) G) (newRow h elem (app (app old new) (zeros z (G - (l + m)))) 0) := by
  obtain ⟨i, hi, h1⟩ := bindO_iff.1 hh
  obtain ⟨z, hz, h2⟩ := bindO_iff.1 h1
  rcases bif_P h2 with ⟨hc, k⟩ | ⟨_, q⟩
  · simp only [natBeq_eq, natBle_eq, len_eq, Bool.and_eq_true, decide_eq_true_eq] at hc
    exact ⟨i, z, hi, hz, hc.1.1, hc.1.2, hc.2, k⟩
  · exact q.elim
theorem appMake_blt (hE : EnvOk P E) {h : H} {ats : Array TypeId} {s x : Value} {K : Value → H → Prop} (hh : appMake E h ats.toList s x K) : BltW P h .append ats [s, x] K := by
  obtain ⟨st, hst, h1⟩ := bindO_iff.1 hh
  obtain ⟨u, hu, h2⟩ := bindO_iff.1 h1
  obtain ⟨xt, hxt, h3⟩ := bindO_iff.1 h2
  obtain ⟨ux, hux, h4⟩ := bindO_iff.1 h3
  clear hh h1 h2 h3
  rw [nthA_eq, Array.getElem?_toList] at hst hxt
  have hU := hE.underP hu
  have hUx := hE.underP hux
  split at h4
  · rename_i elem base l c k k' m
    obtain ⟨sz, hsz, h5⟩ := bindO_iff.1 h4
    obtain ⟨z, hz, h6⟩ := bindO_iff.1 h5
    obtain ⟨old, hold, h7⟩ := bindO_iff.1 h6
    obtain ⟨o, ho, h8⟩ := bindO_iff.1 h7
    rcases bif_P h8 with ⟨_, q⟩ | ⟨eo, h9⟩
    · exact q.elim
    subst eo
    rcases bif_P h9 with ⟨_, q⟩ | ⟨er, h10⟩
    · exact q.elim
    rw [natBle_eq, decide_eq_false_iff_not] at er
    obtain ⟨i, z2, hi, hz2, hfit, h63, hzl, hK⟩ := appNew_use h10
    rw [hz] at hz2; cases hz2
    refine ⟨⟨_, _, hK _ (Nat.le_refl _)⟩, fun ρ W ty consts XS hX hH => ?_⟩
    cases hX with
    | cons _ S _ L1 hs hl =>
      cases hl with
      | cons _ X _ L2 hx hl2 =>
        cases hl2
        obtain ⟨BB, CC, hS⟩ : ∃ B C, S = .slice B l C := by
          rcases lenOf_rel (x := .slice base l c) (L := l) rfl hs with ⟨B, C, e⟩ | ⟨s', e, _⟩
          · exact ⟨B, C, e⟩
          · subst e; cases hs
        subst hS
        have hCC : CC = c := by
          cases hs with
          | snil => rfl
          | slice b of _ _ A _ r hrr hsr => exact openEnd_none hH hrr ho hsr
        subst hCC
        have hX : X = .int k' (.ofNat m) := by cases hx; rfl
        subst hX
        obtain ⟨i', j, zv, hi', hj, hjs, hjb, hjz, hzc, hzr⟩ := hE.zinfo hz
        rw [hi] at hi'; cases hi'
        have hisz : i.size = sz := by
          obtain ⟨i2, hi2, hs'⟩ := bind_some hsz
          rw [show E.types.get elem = some i from hi] at hi2; cases hi2; cases hs'; rfl
        have hH3 : HRel ρ h W.drew := hH.drew rfl
        obtain ⟨OLD, hfo, hro, hlo⟩ := src_sound (P := P) hH3 hs (L := l) rfl (Nat.le_refl l) hold
        have hzz : zv.cells.size = sz := by rw [← hzl, ← hzc, Array.length_toList]
        have hns : Builtin.nextslicecap (l + m) CC * j.bytes ≤ 281474976710656 := by
          have h1 : Builtin.nextslicecap (l + m) CC * j.bytes ≤ 2 * (l + m) * j.bytes := Nat.mul_le_mul_right _ (nextslicecap_le (by omega))
          have h2 : 2 * (l + m) * j.bytes ≤ (l + m + 64) * 4 * j.bytes := Nat.mul_le_mul_right _ (by omega)
          rw [hjb] at *
          omega
        have hmb : ((m : Nat) : Int) * (j.bytes : Int) ≤ 281474976710656 := by
          have h1 : m * j.bytes ≤ (l + m + 64) * 4 * j.bytes := Nat.mul_le_mul_right _ (by omega)
          have : m * j.bytes ≤ 281474976710656 := by rw [hjb] at *; omega
          have e := Int.ofNat_le.2 this
          rw [← Int.natCast_mul]; exact e
        have hwr : IntKind.i64.wrap ((m : Nat) : Int) = m := by
          have : m ≤ 70368744177664 := by omega
          have h2 : ((m : Nat) : Int) % 2 ^ 64 = m := Int.emod_eq_of_lt (by omega) (by omega)
          have h3 : ¬ ((m : Nat) : Int) ≥ 2 ^ 63 := by omega
          simp [IntKind.wrap, IntKind.bits, IntKind.signed, h2]
          omega
        have hG := grownCap_ge W (l + m) CC elem
        have hrun := run_append_make (W := W) (ats := ats) (ty := ty) (k' := k') (m := m) hst hU hxt hUx hj (hjs.trans hisz) hjz hzz rfl hfo er hwr hmb h63 hns
        generalize grownCap W (l + m) CC elem = G at *
        have hX3 : Ext ρ h W ρ h W.drew := Ext.drew rfl rfl rfl rfl
        have hcs : app (app old (zeros z m)) (zeros z (G - (l + m))) = old ++ zeros z m ++ zeros z (G - (l + m)) := by rw [app_eq, app_eq]
        have hrel : VRels ρ (old ++ zeros z m ++ zeros z (G - (l + m))) (OLD ++ (Builtin.zeroCells zv.cells m).toList ++ (Builtin.zeroCells zv.cells (G - (l + m))).toList) := (hro.append (zeroCells_rel hzc (hzr ρ))).append (zeroCells_rel hzc (hzr ρ))
        obtain ⟨k1, k2⟩ := row_new (e := elem) (osz := 0) (c := app (app old (zeros z m)) (zeros z (G - (l + m)))) (C := OLD.toArray ++ Builtin.zeroCells zv.cells m ++ Builtin.zeroCells zv.cells (G - (l + m))) (W' := W.drew.alloc (.cells (OLD.toArray ++ Builtin.zeroCells zv.cells m ++ Builtin.zeroCells zv.cells (G - (l + m))) elem)) hH3 (by rw [hcs, hrel.length]; simp) (by
          intro i v e
          rw [hcs] at e
          obtain ⟨V, hV, hvr⟩ := hrel.get i v e
          refine ⟨V, ?_, hvr⟩
          rw [← hV, ← Array.getElem?_toList]; simp) (noF _) rfl rfl rfl rfl
        refine ⟨_, _, _, _, _, run_RVal hrun, hK G hG, ?_, k1, hX3.trans k2⟩
        refine .slice _ _ _ _ _ _ _ (Rho.add_same _ _ _) ?_
        unfold SRel
        rw [if_neg (fun q => q.1 rfl)]
        exact ⟨rfl, rfl⟩
  · exact h4.elim
theorem bltC_split (hE : EnvOk P E) {h : H} {b : Builtin} {ats : Array TypeId} {args : List Value} {K : Value → H → Prop} (hh : bltC P E h b ats args K) : bindO (builtinR E h b ats args) (valK K) ∨ BltW P h b ats args K := by
  unfold bltC at hh
  split at hh
  · rcases hh.w with hh | hh | hh
    · exact .inl hh
    · exact .inr (appAny_blt hE hh)
    · exact .inr (appMake_blt hE hh)
  · exact .inr (capP_blt hE hh)
  · exact .inr (clearP_blt hE hh)
  · exact .inl hh
/-- a call of a built-in function -/
def BltCall (P : Program) (h : H) (ρ : Operand → Value) (c : Call) (K : Value → H → Prop) : Prop := ∃ (b : Builtin) (args : Array Operand) (ats : Array TypeId), c = ⟨.builtin b, args, ats⟩ ∧ BltW P h b ats (mapV ρ args.toList) K
theorem callC_sound (hE : EnvOk P E) {h : H} {ρ : Operand → Value} {c : Call} {K : Value → H → Prop} (hρ : ∀ f, ρ (.func f) = .func (.func f) #[] #[]) (hh : callC P E h ρ c K) : (∃ r, op_call E h ρ c = some r ∧ onR P h K r) ∨ BltCall P h ρ c K := by
  obtain ⟨callee, args, ats⟩ := c
  cases callee with
  | value x =>
    cases x with
    | tmp t =>
      have hh' : dynP P E (ρ (.tmp t)) (mapV ρ args.toList) h K := hh
      have hh' := hh'.w
      unfold dynD at hh'
      split at hh'
      · rename_i g first captured e
        split at hh'
        · rename_i hx
          refine .inl ⟨.enter g (app (app first.toList (mapV ρ args.toList)) captured.toList), ?_, hh'⟩
          show (match ρ (.tmp t) with | .func fn first captured => callTarget E h fn captured.toList (app first.toList (mapV ρ args.toList)) | _ => none) = _
          rw [e]
          show enterF E h g _ = _
          unfold enterF; rw [hx]
        · exact hh'.elim
      · rename_i l first captured e
        obtain ⟨⟨s0, pd, f0, tm, ps, as, bd, d0, hl, hn⟩, hk⟩ := hh'
        refine .inl ⟨.round l (app first.toList (mapV ρ args.toList)), ?_, hk⟩
        show (match ρ (.tmp t) with | .func fn first captured => callTarget E h fn captured.toList (app first.toList (mapV ρ args.toList)) | _ => none) = _
        rw [e]
        show (match h.get l with | some (.loop _ _ _ _ ps _ _ _) => bif Nat.beq (len (app first.toList (mapV ρ args.toList))) (len ps) then some (R.round l (app first.toList (mapV ρ args.toList))) else none | _ => none) = _
        rw [hl]
        simp only
        rw [natBeq_eq, len_eq, len_eq, hn]; simp
      · exact hh'.elim
    | const v => exact hh.elim
    | global g => exact hh.elim
    | func g =>
      have hh' : Option.rec (motive := fun _ => Prop) (callP P g (mapV ρ args.toList) h K) (fun _ => False) (findX g E.xs) := hh
      cases hx : findX g E.xs with
      | some k => rw [hx] at hh'; exact hh'.elim
      | none =>
        rw [hx] at hh'
        refine .inl ⟨.enter g (mapV ρ args.toList), ?_, hh'⟩
        show (match ρ (.func g) with | .func fn first captured => callTarget E h fn captured.toList (app first.toList (mapV ρ args.toList)) | _ => none) = _
        rw [hρ]
        show enterF E h g (app (app [] (mapV ρ args.toList)) []) = _
        rw [app_eq, app_eq]
        unfold enterF; rw [hx]; simp
  | invoke r m => exact hh.elim
  | builtin b =>
    rcases bltC_split hE (show bltC P E h b ats (mapV ρ args.toList) K from hh) with hh | hh
    · obtain ⟨r, hr, hk⟩ := bindO_iff.1 hh
      refine .inl ⟨r, hr, ?_⟩
      cases r with
      | val v h' => exact hk
      | enter f args => exact hk.elim
      | round l args => exact hk.elim
    · exact .inr ⟨_, _, _, rfl, hh⟩
theorem opC_val {o : Op} {h : H} {ρ : Operand → Value} {K : Value → H → Prop} (hn : ∀ c, o ≠ .call c) (hh : opC P E o ρ h K) : ∃ v h', opR o E h ρ = some (.val v h') ∧ K v h' := by
  cases o with
  | move x => exact ⟨_, _, rfl, hh⟩
  | assign x => exact ⟨_, _, rfl, hh⟩
  | pick c a b =>
    obtain ⟨v, hv, hk⟩ := bindO_iff.1 (show bindO (pickV (ρ c) (ρ a) (ρ b)) _ from hh)
    obtain ⟨t, ht, hv⟩ := bind_some hv
    cases hv
    exact ⟨_, _, (bind_eq ht : op_pick E h ρ c a b = _), hk⟩
  | alloc e =>
    obtain ⟨z, hz, hk⟩ := bindO_iff.1 (show bindO (E.zcells e) _ from hh)
    exact ⟨_, _, (bind_eq hz : op_alloc E h ρ e = _), hk⟩
  | box e x =>
    obtain ⟨z, hz, hk⟩ := bindO_iff.1 (show bindO (cells (ρ x)) _ from hh)
    exact ⟨_, _, (bind_eq hz : op_box E h ρ e x = _), hk⟩
  | build t parts =>
    obtain ⟨v, hv, hk⟩ := bindO_iff.1 (show bindO (buildV E t _) _ from hh)
    refine ⟨v, h, ?_, hk⟩
    show op_build E h ρ t parts = _
    unfold buildV at hv
    unfold op_build
    obtain ⟨z, hz, hv⟩ := bind_some hv
    obtain ⟨u, hu, hv⟩ := bind_some hv
    rw [bind_eq hz, bind_eq hu]
    split at hv
    · obtain ⟨w, hw, hv⟩ := bind_some hv
      obtain ⟨c, hc, hv⟩ := bind_some hv
      simp only
      rw [bind_eq hw, bind_eq hc]; cases hv; rfl
    · obtain ⟨w, hw, hv⟩ := bind_some hv
      obtain ⟨c, hc, hv⟩ := bind_some hv
      simp only
      rw [bind_eq hw, bind_eq hc]; cases hv; rfl
    · cases hv
  | buildSlice t n parts =>
    obtain ⟨h', hv, hk⟩ := bindO_iff.1 (show bindO (buildS E h t n _) _ from hh)
    refine ⟨.slice (some ⟨h.next, 0, none⟩) n n, h', ?_, hk⟩
    show op_buildSlice E h ρ t n parts = _
    unfold buildS at hv
    unfold op_buildSlice
    obtain ⟨u, hu, hv⟩ := bind_some hv
    rw [bind_eq hu]
    split at hv
    · obtain ⟨s, hs, hv⟩ := bind_some hv
      obtain ⟨z, hz, hv⟩ := bind_some hv
      obtain ⟨c, hc, hv⟩ := bind_some hv
      simp only
      rw [bind_eq hs, bind_eq hz, bind_eq hc]
      obtain ⟨hb, hv⟩ := bif_some hv
      rw [hb]; cases hv; rfl
    · cases hv
  | load t a =>
    obtain ⟨v, hv, hk⟩ := bindO_iff.1 (show bindO (loadV E h t _) _ from hh)
    refine ⟨v, h, ?_, hk⟩
    show op_load E h ρ t a = _
    obtain ⟨A, hA, hv⟩ := bind_some hv
    unfold op_load; rw [bind_eq hA]; exact lit_some hv
  | store t a x =>
    obtain ⟨h', hv, hk⟩ := bindO_iff.1 (show bindO (storeV E h t _ _) _ from hh)
    refine ⟨undef, h', ?_, hk⟩
    show op_store E h ρ t a x = _
    obtain ⟨A, hA, hv⟩ := bind_some hv
    unfold op_store; rw [bind_eq hA, hv]; rfl
  | nilCheck x =>
    obtain ⟨v, hv, hk⟩ := bindO_iff.1 (show bindO (nilV _) _ from hh)
    refine ⟨v, h, ?_, hk⟩
    show op_nilCheck E h ρ x = _
    unfold nilV at hv
    unfold op_nilCheck
    split at hv <;> first | (cases hv; done) | (rename_i e; rw [e]; cases hv; rfl)
  | binOp op t x y yt =>
    obtain ⟨v, hv, hk⟩ := bindO_iff.1 (show bindO (binOp E op t _ _) _ from hh)
    exact ⟨_, _, (lit_some hv : op_binOp E h ρ op t x y = _), hk⟩
  | unOp op t x =>
    obtain ⟨v, hv, hk⟩ := bindO_iff.1 (show bindO (unOp op _) _ from hh)
    exact ⟨_, _, (lit_some hv : op_unOp E h ρ op x = _), hk⟩
  | convert s d x =>
    obtain ⟨v, hv, hk⟩ := bindO_iff.1 (show bindO (convV E h s d _) _ from hh)
    refine ⟨v.1, v.2, ?_, hk⟩
    show op_convert E h ρ s d x = _
    unfold convV at hv
    unfold op_convert
    obtain ⟨us, hus, hv⟩ := bind_some hv
    obtain ⟨ud, hud, hv⟩ := bind_some hv
    rw [bind_eq hus, bind_eq hud]
    split at hv
    · rename_i e; simp only [e]; cases hv; rfl
    · rename_i e; simp only [e]; cases hv; rfl
    · rename_i e; simp only [e]
      obtain ⟨ue, hue, hv⟩ := bind_some hv
      rw [bind_eq hue]
      split at hv
      · cases hv; rfl
      · cases hv
    · rename_i e; simp only [e]
      split at hv
      · obtain ⟨ue, hue, hv⟩ := bind_some hv
        simp only
        rw [bind_eq hue]
        split at hv
        · obtain ⟨cs, hcs, hv⟩ := bind_some hv
          obtain ⟨bs, hbs, hv⟩ := bind_some hv
          rw [bind_eq hcs, bind_eq hbs]; cases hv; rfl
        · cases hv
      · cases hv
    · rename_i e; simp only [e]
      obtain ⟨w, hw, hv⟩ := bind_some hv
      cases hv
      exact lit_some hw
    · rename_i e; simp only [e]
      obtain ⟨w, hw, hv⟩ := bind_some hv
      cases hv
      exact lit_some hw
    · cases hv
  | makeInterface t x =>
    obtain ⟨v, hv, hk⟩ := bindO_iff.1 (show bindO (ifaceV E t _) _ from hh)
    refine ⟨v, h, ?_, hk⟩
    show op_makeInterface E h ρ t x = _
    unfold ifaceV at hv
    unfold op_makeInterface
    obtain ⟨u, hu, hv⟩ := bind_some hv
    rw [bind_eq hu]
    cases u <;> first | (cases hv; done) | (cases hv; rfl)
  | makeFunc fn first captured =>
    obtain ⟨v, hv, hk⟩ := bindO_iff.1 (show bindO (funcV fn _ _) _ from hh)
    refine ⟨v, h, ?_, hk⟩
    show op_makeFunc E h ρ fn first captured = _
    obtain ⟨hb, hv⟩ := bif_some hv
    unfold op_makeFunc; rw [hb]; cases hv; rfl
  | makeSlice t l c =>
    obtain ⟨v, hv, hk⟩ := bindO_iff.1 (show bindO (makeS E h t _ _) _ from hh)
    refine ⟨v.1, v.2, ?_, hk⟩
    show op_makeSlice E h ρ t l c = _
    unfold makeS at hv
    unfold op_makeSlice
    obtain ⟨u, hu, hv⟩ := bind_some hv
    rw [bind_eq hu]
    split at hv
    · rename_i e1 e2
      simp only [e1, e2]
      obtain ⟨i, hi, hv⟩ := bind_some hv
      obtain ⟨z, hz, hv⟩ := bind_some hv
      rw [bind_eq hi, bind_eq hz]
      obtain ⟨hb, hv⟩ := bif_some hv
      rw [hb]; cases hv; rfl
    · cases hv
  | slice t x lo hi mx =>
    obtain ⟨v, hv, hk⟩ := bindO_iff.1 (show bindO (sliceV E h t _ _ _ _) _ from hh)
    exact ⟨_, _, (lit_some hv : op_slice E h ρ t x lo hi mx = _), hk⟩
  | fieldAddr s x f =>
    obtain ⟨v, hv, hk⟩ := bindO_iff.1 (show bindO (fieldA E s _ f) _ from hh)
    refine ⟨v, h, ?_, hk⟩
    show op_fieldAddr E h ρ s x f = _
    unfold fieldA at hv
    unfold op_fieldAddr
    obtain ⟨u, hu, hv⟩ := bind_some hv
    rw [bind_eq hu]
    split at hv
    · obtain ⟨fd, hf, hv⟩ := bind_some hv
      obtain ⟨A, hA, hv⟩ := bind_some hv
      obtain ⟨sz, hs, hv⟩ := bind_some hv
      simp only
      rw [bind_eq hf, bind_eq hA, bind_eq hs]
      cases hb : Nat.beq sz 0 with
      | true => rw [hb] at hv; cases hv
      | false => rw [hb] at hv; cases hv; rfl
    · cases hv
  | field t x f =>
    obtain ⟨v, hv, hk⟩ := bindO_iff.1 (show bindO (fieldV E t _ f) _ from hh)
    refine ⟨v, h, ?_, hk⟩
    show op_field E h ρ t x f = _
    unfold fieldV at hv
    unfold op_field
    obtain ⟨u, hu, hv⟩ := bind_some hv
    rw [bind_eq hu]
    split at hv
    · obtain ⟨fd, hf, hv⟩ := bind_some hv
      unfold fldP at hv
      split at hv
      · rename_i e
        simp only [e]
        rw [bind_eq hf]; exact lit_some hv
      · cases hv
    · cases hv
  | indexAddr t x ix =>
    obtain ⟨v, hv, hk⟩ := bindO_iff.1 (show bindO (indexA E t _ _) _ from hh)
    refine ⟨v, h, ?_, hk⟩
    show op_indexAddr E h ρ t x ix = _
    unfold indexA at hv
    unfold op_indexAddr
    obtain ⟨u, hu, hv⟩ := bind_some hv
    rw [bind_eq hu]
    split at hv
    · obtain ⟨sz, hs, hv⟩ := bind_some hv
      unfold ixP at hv
      split at hv
      · rename_i e1 e2
        simp only [e1, e2]
        rw [bind_eq hs]
        obtain ⟨hb, hv⟩ := bif_some hv
        rw [hb]; cases hv; rfl
      · cases hv
    · obtain ⟨sz, hs, hv⟩ := bind_some hv
      unfold ixA at hv
      split at hv
      · rename_i e1 e2
        simp only [e1, e2]
        rw [bind_eq hs]
        obtain ⟨hb, hv⟩ := bif_some hv
        rw [hb]; cases hv; rfl
      · cases hv
    · cases hv
  | index t x ix =>
    obtain ⟨v, hv, hk⟩ := bindO_iff.1 (show bindO (indexV E t _ _) _ from hh)
    refine ⟨v, h, ?_, hk⟩
    show op_index E h ρ t x ix = _
    unfold indexV at hv
    unfold op_index
    obtain ⟨u, hu, hv⟩ := bind_some hv
    rw [bind_eq hu]
    split at hv
    · obtain ⟨sz, hs, hv⟩ := bind_some hv
      unfold ixG at hv
      split at hv
      · rename_i e1 e2
        simp only [e1, e2]
        rw [bind_eq hs]
        obtain ⟨hb, hv⟩ := bif_some hv
        rw [hb]; exact lit_some hv
      · cases hv
    · unfold ixS at hv
      split at hv
      · rename_i e1 e2
        simp only [e1, e2]
        obtain ⟨b, hb, hv⟩ := bind_some hv
        rw [bind_eq hb]; cases hv; rfl
      · cases hv
    · cases hv
  | extract t ix =>
    obtain ⟨v, hv, hk⟩ := bindO_iff.1 (show bindO (extractV _ ix) _ from hh)
    refine ⟨v, h, ?_, hk⟩
    show op_extract E h ρ t ix = _
    unfold extractV at hv
    unfold op_extract
    split at hv
    · rename_i e; rw [e]; exact lit_some hv
    · cases hv
  | call c => exact absurd rfl (hn c)
  | _ => exact hh.elim

theorem opC_sound (hE : EnvOk P E) {o : Op} {h : H} {ρ : Operand → Value} {K : Value → H → Prop} (hρ : ∀ f, ρ (.func f) = .func (.func f) #[] #[]) (hh : opC P E o ρ h K) : (∃ r, opR o E h ρ = some r ∧ onR P h K r) ∨ ∃ c, o = .call c ∧ BltCall P h ρ c K := by
  by_cases hc : ∃ c, o = .call c
  · obtain ⟨c, rfl⟩ := hc
    rcases callC_sound hE hρ (show callC P E h ρ c K from hh) with k | k
    · exact .inl k
    · exact .inr ⟨c, rfl, k⟩
  · obtain ⟨v, h', h1, h2⟩ := opC_val (fun c e => hc ⟨c, e⟩) hh
    exact .inl ⟨.val v h', h1, h2⟩
theorem opL_sound {o : Op} {h : H} {ρ : Operand → Value} {v : Value} (hh : opL E o ρ h = some v) : (opR o E h ρ).bind valOf = some v := by
  by_cases hc : ∃ c, o = .call c
  · obtain ⟨c, rfl⟩ := hc
    obtain ⟨callee, args, ats⟩ := c
    cases callee with
    | builtin b => exact hh
    | value _ => cases hh
    | invoke _ _ => cases hh
  · have key : opC default E o ρ h fun v' _ => v' = v := by
      cases o <;> first | (exact absurd ⟨_, rfl⟩ hc) | (cases hh; done) | exact Option.some.inj hh | exact bindO_iff.2 ⟨_, hh, rfl⟩ | skip
      obtain ⟨r, hr, hv⟩ := bind_some (show (convV E h _ _ _).bind _ = some v from hh)
      exact bindO_iff.2 ⟨r, hr, Option.some.inj hv⟩
    obtain ⟨v', h', h1, rfl⟩ := opC_val (fun c e => hc ⟨c, e⟩) key
    rw [h1]; rfl
theorem B.set_get {b : B} {n : Nat} (h : Sz b n) : ∀ k, k < n → b.set k (b.get k) = b := by
  induction h with
  | nil => intro k hk; omega
  | leaf u =>
    intro k hk
    have : k = 0 := by omega
    subst this; rfl
  | node l r n h hl hr il ir =>
    intro k hk
    rw [B.set_node, B.get_node]
    split
    · rw [il _ (by omega)]
    · rw [ir _ (by omega)]
theorem Sz.set_same {b : B} {n : Nat} (h : Sz b n) {k : Nat} {v : Value} (hk : b.get k = v) (hv : v ≠ undef) : b.set k v = b := by
  rcases Nat.lt_or_ge k n with g | g
  · rw [← hk]; exact B.set_get h k g
  · rw [h.get_out k g] at hk; exact absurd hk.symm hv
theorem Sz.uniq {b : B} {n : Nat} (h : Sz b n) : ∀ m, Sz b m → n = m := by
  induction h with
  | nil => intro m hm; cases hm; rfl
  | leaf u => intro m hm; cases hm; rfl
  | node l r n h hl hr il ir =>
    intro m hm
    cases hm with
    | node _ _ _ h' hl' hr' =>
      have := il _ hl'
      have := ir _ hr'
      omega
/-- what a guard says -/
theorem guardC_sound {ops : Array Oper} {o : Oper} {sk : List Nat} {t : B} {n : Nat} {go skip : B → Prop} (hS : Sz t n) (hh : guardC ops.toList sk t go skip o.guard) : ∃ b, guardOk ops t o = some b ∧ (b = true → go t) ∧ (b = false → skip t) := by
  unfold guardC at hh
  unfold guardOk
  cases hg : o.guard with
  | none => rw [hg] at hh; exact ⟨true, rfl, fun _ => hh, fun q => by cases q⟩
  | some jw =>
    obtain ⟨j, want⟩ := jw
    rw [hg] at hh
    simp only at hh ⊢
    cases hd : (nthA ops.toList j).bind (·.dst) with
    | none => rw [hd] at hh; exact ⟨false, rfl, (fun q => by cases q), fun _ => hh⟩
    | some d =>
      rw [hd] at hh
      simp only at hh ⊢
      cases hs : elemN j sk with
      | true =>
        rw [hs] at hh
        have hh' : tupP (t.get d) (skip t) := hh
        unfold tupP at hh'
        split at hh'
        · rename_i vs e
          exact ⟨false, by rw [e]; rfl, (fun q => by cases q), fun _ => hh'⟩
        · exact hh'.elim
      | false =>
        rw [hs] at hh
        have hh' : boolP (t.get d) want (go (t.set d (.bool want))) (skip (t.set d (.bool (!want)))) := hh
        unfold boolP at hh'
        split at hh'
        · rename_i b e
          rw [e]
          have hne : ∀ q : Bool, Value.bool q ≠ undef := fun q hq => by cases hq
          cases want <;> cases b
          · rw [hS.set_same e (hne _)] at hh'; exact ⟨true, rfl, fun _ => hh', fun q => by cases q⟩
          · rw [show (t.set d (Value.bool (!false))) = t from hS.set_same e (hne _)] at hh'; exact ⟨false, rfl, (fun q => by cases q), fun _ => hh'⟩
          · rw [show (t.set d (Value.bool (!true))) = t from hS.set_same e (hne _)] at hh'; exact ⟨false, rfl, (fun q => by cases q), fun _ => hh'⟩
          · rw [hS.set_same e (hne _)] at hh'; exact ⟨true, rfl, fun _ => hh', fun q => by cases q⟩
        · exact hh'.elim

/-- behind a piece of code -/
def AfterK (N base : Nat) (ρ : Rho) (h : H) (W : World) (K : Kont) : Exit → Act → World → Prop :=
  fun e' a' W' => ∃ e t' h', K e t' h' ∧ e' = exitOf e ∧ a'.tmps.size = N ∧ ∃ ρ', TRel ρ' t' a'.tmps ∧ HRel ρ' h' W' ∧ Ext ρ h W ρ' h' W' ∧ Marks base ρ' h' W' a'.defers
/-- top: in a frame of its own -/
def WpS (P : Program) (top : Bool) (N : Nat) (c : Code) (t : B) (h : H) (K : Kont) : Prop :=
  ∀ (rr : Option Nat) (base : Nat) (ρ : Rho) (a : Act) (W : World), (top = true → rr = none) → base ≤ W.heap.size → TRel ρ t a.tmps → HRel ρ h W → a.tmps.size = N → Marks base ρ h W a.defers → From rr P (entry c) (AfterK N base ρ h W K) a W
theorem put_size (a : Act) (d : Option Tmp) (V : Value) : (a.put d V).tmps.size = a.tmps.size := by
  cases d with
  | none => rfl
  | some d => show (a.tmps.setIfInBounds d V).size = _; simp
theorem onR_ans {h : H} {K : Value → H → Prop} {r : R} (hk : onR P h K r) : RAnsW P r h K := by
  cases r with
  | val v h' => exact .inl ⟨v, h', rfl, hk⟩
  | enter f args => exact .inr (.inl ⟨f, args, rfl, hk.w⟩)
  | round l args => exact .inr (.inr ⟨l, args, rfl, hk.w⟩)
theorem opC_soundW (hE : EnvOk P E) {o : Oper} {t : B} {h : H} {K : Value → H → Prop} (hh : opC P E o.op (ev t) h K) : OperW P o t h K := by
  rcases opC_sound hE (fun f => rfl) hh with ⟨r, hr, hk⟩ | ⟨c, ho, b, args, ats, hc, hb⟩
  · exact .of hE hr (onR_ans hk)
  · subst hc
    refine ⟨hb.1, fun rr ρ a W Kx Q hT hH hK => ?_⟩
    have hargs := mapV_rel (ρ := ρ) (a := ev t) (c := a.eval) args.toList (fun x hx => hT x (by rw [ho]; simpa [Op.operands, Call.operands] using hx))
    obtain ⟨ρ', W', v, V, h', k0, kk, k1, k2, k3⟩ := hb.2 ρ W o.type (args.map fun | .const _ => true | _ => false) _ hargs hH
    have hsem : o.semAt (FW rr).round a.eval = execOp a.eval o := Oper.semAt_eq _ _ _ (fun c q => by rw [ho] at q; cases q)
    have he : (args.toList.map a.eval).toArray = args.map a.eval := Array.ext' (by simp)
    rw [he] at k0
    have hrun : (execOp a.eval o).run P W = .ok (.value V) W' := by
      simp only [execOp, ho, resolve, Sem.run_bind, Sem.run_pure, Result.andThen_ok, Go.invoke]
      exact k0
    refine ⟨fun _ _ => trivial, ?_⟩
    rw [hsem, hrun]
    exact hK _ _ _ _ _ kk k1 k2 k3
theorem opsC_sound (hE : EnvOk P E) {rr : Option Nat} {ops : Array Oper} {K : B → H → Prop} {N base : Nat} {ρ0 : Rho} {h0 : H} {W0 : World} : ∀ (rest : List Oper) (i : Nat) (sk : List Nat) (t : B) (h : H) (ρ : Rho) (a : Act) (W : World), opsC P E ops.toList K rest i sk t h →
    TRel ρ t a.tmps → HRel ρ h W → Ext ρ0 h0 W0 ρ h W → Marks base ρ h W a.defers → a.tmps.size = N → wpListIn (FW rr) 0 P ops (AfterK N base ρ0 h0 W0 fun e t h => onAE e (K t h) (fun _ => False) (fun _ => False) False) rest a W := by
  intro rest
  induction rest with
  | nil =>
    intro i sk t h ρ a W hh hT hH hX hM hn
    exact ⟨.normal, t, h, hh, rfl, hn, ρ, hT, hH, hX, hM⟩
  | cons o rest ih =>
    intro i sk t h ρ a W hh hT hH hX hM hn
    have hh1 : guardC ops.toList sk t (fun t => opC P E o.op (ev t) h fun v h' => opsC P E ops.toList K rest (Nat.add i 1) sk (putT t o.dst v) h') (fun t => opsC P E ops.toList K rest (Nat.add i 1) (i :: sk) (putT t o.dst undef) h) o.guard := hh
    obtain ⟨b, hg, hgo, hskip⟩ := guardC_sound (o := o) hT.1 hh1
    have hwant := guardOk_rel hT ops o hg
    unfold wpListIn
    cases b with
    | false =>
      rw [if_neg (by rw [hwant]; simp)]
      obtain ⟨p1, p2⟩ := put_rel hT o.dst (VRel.undef ρ)
      exact ⟨fun _ _ => trivial, ih _ _ _ _ ρ _ W (hskip rfl) p1 hH hX (by rw [p2]; exact hM) ((put_size _ _ _).trans hn)⟩
    | true =>
      rw [if_pos hwant]
      refine (opC_soundW hE (hgo rfl)).2 rr ρ a W _ _ (fun x _ => ev_rel hT x) hH fun v h' ρ' V W' hk k1 k2 k3 => ?_
      obtain ⟨p1, p2⟩ := put_rel (hT.mono k3.le) o.dst k1
      exact ih _ _ _ _ ρ' _ W' hk p1 k2 (hX.trans k3) (by rw [p2]; exact hM.ext k3) ((put_size _ _ _).trans hn)
end Go.X
