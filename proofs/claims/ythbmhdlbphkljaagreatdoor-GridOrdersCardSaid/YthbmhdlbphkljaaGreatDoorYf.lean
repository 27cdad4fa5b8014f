/- A part of the evaluator of the model, and of the proof that what it answers is what a call comes to. No conditions of its own. -/
import Derived.Test.YthbmhdlbphkljaaGreatDoorYe
namespace Go.X
open Go
variable {P : Program} {E : Env}

/-! what a call leaves behind may be forgotten -/
structure Fr (h h' : H) : Prop where
  next : h.next ≤ h'.next
  old : ∀ b, b < h.next → h'.get b = h.get b
theorem Fr.refl (h : H) : Fr h h := ⟨Nat.le_refl _, fun _ _ => rfl⟩
theorem Fr.trans {a b c : H} (x : Fr a b) (y : Fr b c) : Fr a c := ⟨Nat.le_trans x.next y.next, fun k hk => (y.old k (Nat.lt_of_lt_of_le hk x.next)).trans (x.old k hk)⟩
theorem Fr.newRow {h0 h : H} (x : Fr h0 h) (e : TypeId) (c : List Value) (k : Nat) : Fr h0 (newRow h e c k) := by
  refine ⟨?_, fun b hb => ?_⟩
  · show h0.next ≤ h.next + 1; have := x.next; omega
  · show (h.new _).get b = _
    rw [H.get_new, if_neg (by have := x.next; omega)]; exact x.old b hb
theorem Fr.put {h0 h : H} (x : Fr h0 h) {b : Nat} (o : AObj) (hb : h0.next ≤ b) : Fr h0 (h.put b o) :=
  ⟨x.next, fun c hc => by rw [H.get_put, if_neg (by omega)]; exact x.old c hc⟩
theorem Fr.del {h0 h : H} (x : Fr h0 h) {b : Nat} (hb : h0.next ≤ b) : Fr h0 (h.del b) :=
  ⟨x.next, fun c hc => by rw [H.get_del, if_neg (by omega)]; exact x.old c hc⟩

mutual
/-- a value that leads to nothing -/
def flat : Value → Bool
  | .bool _ | .int _ _ | .float _ _ | .string _ | .pointer none | .slice none _ _ | .map none | .nilFunc | .nilIface => true
  | .agg ⟨l⟩ => flatL l
  | .tuple ⟨l⟩ => flatL l
  | .iface _ v => flat v
  | _ => false
def flatL : List Value → Bool
  | [] => true
  | v :: l => flat v && flatL l
end
def Agree (ρ ρ' : Rho) (n : Nat) : Prop := ∀ b, b < n → ρ' b = ρ b
/-- what was related below n, and is related now, is so in the old places -/
theorem VRel.back {ρ ρ' : Rho} {n : Nat} (ha : Agree ρ ρ' n) (hd : ∀ b r, ρ b = some r → b < n) {v V0 : Value} (h0 : VRel ρ v V0) : ∀ V, VRel ρ' v V → VRel ρ v V := by
  refine VRel.rec (motive_1 := fun v V0 _ => ∀ V, VRel ρ' v V → VRel ρ v V) (motive_2 := fun l L0 _ => ∀ L, VRels ρ' l L → VRels ρ l L) ?_ ?_ ?_ ?_ ?_ ?_ ?_ ?_ ?_ ?_ ?_ ?_ ?_ ?_ ?_ ?_ ?_ ?_ ?_ h0
  · exact fun _ V _ => .unk V
  · intro b V h; cases h; exact .bool b
  · intro k n V h; cases h; exact .int k n
  · intro k n V h; cases h; exact .float k n
  · intro s V h; cases h; exact .string s
  · intro V h; cases h; exact .pnil
  · intro b o r e V h
    cases h with | ptr _ _ r' e' => exact .ptr b o r' ((ha b (hd b r e)) ▸ e')
  · intro l c V h; cases h; exact .snil l c
  · intro b o l c A C r e hs V h
    cases h with | slice _ _ _ _ A' C' r' e' hs' => exact .slice b o l c A' C' r' ((ha b (hd b r e)) ▸ e') hs'
  · intro V h; cases h; exact .mnil
  · intro b r e V h
    cases h with | map _ r' e' => exact .map b r' ((ha b (hd b r e)) ▸ e')
  · intro f F a A c C hf _ _ ia ic V h
    cases h with
    | func _ F' _ A' _ C' hf' ha' hc' =>
      refine .func f F' a A' c C' ?_ (ia _ ha') (ic _ hc')
      cases hf with
      | func f => cases hf'; exact .func f
      | method s => cases hf'; exact .method s
      | yield l r e => cases hf' with | yield _ r' e' => exact .yield l r' ((ha l (hd l r e)) ▸ e')
  · intro V h; cases h; exact .nilFunc
  · intro t v V0 _ ih V h
    cases h with | iface _ _ V' hv => exact .iface t v V' (ih _ hv)
  · intro V h; cases h; exact .nilIface
  · intro c C _ ih V h
    cases h with | agg _ C' hc => exact .agg c C' (ih _ hc)
  · intro c C _ ih V h
    cases h with | tuple _ C' hc => exact .tuple c C' (ih _ hc)
  · intro L h; cases h; exact .nil
  · intro v V0 l L0 _ _ ih il L h
    cases h with | cons _ V _ L hv hl => exact .cons v V l L (ih _ hv) (il _ hl)
theorem ERels.back {ρ ρ' : Rho} {n : Nat} (ha : Agree ρ ρ' n) (hd : ∀ b r, ρ b = some r → b < n) {l L0 : List MapEntry} (h0 : ERels ρ l L0) : ∀ L, ERels ρ' l L → ERels ρ l L := by
  induction h0 with
  | nil => intro L h; cases h; exact .nil
  | cons e E l L hk hv hb _ ih =>
    intro L' h
    cases h with | cons _ E' _ L' hk' hv' hb' hl' => exact .cons e E' l L' (hk.back ha hd _ hk') (hv.back ha hd _ hv') hb' (ih _ hl')
theorem ORel.back {ρ ρ' : Rho} {n : Nat} (ha : Agree ρ ρ' n) (hd : ∀ b r, ρ b = some r → b < n) {r : RI} {W W' : World} {x : AObj} (h0 : ORel ρ r W x) (h : ORel ρ' r W' x) : ORel ρ r W' x := by
  cases x with
  | row x =>
    obtain ⟨C0, F0, a1, a2, a3, a4, a5, a6, a7⟩ := h0
    obtain ⟨C, F, h1, h2, h3, h4, h5, h6, h7⟩ := h
    refine ⟨C, F, h1, h2, h3, h4, h5, fun i v e => ?_, h7⟩
    obtain ⟨V0, _, hv0⟩ := a6 i v e
    obtain ⟨V, e', hv⟩ := h6 i v e
    exact ⟨V, e', hv0.back ha hd _ hv⟩
  | map es clock =>
    obtain ⟨ES0, _, a2⟩ := h0
    obtain ⟨ES, h1, h2⟩ := h
    exact ⟨ES, h1, a2.back ha hd _ h2⟩
  | iter s pos => exact h
  | loop state pending fn tmps params assign body d =>
    obtain ⟨T0, _, _, a2, _⟩ := h0
    obtain ⟨T, fn, d, h2, h4⟩ := h
    exact ⟨T, fn, d, ⟨h2.1, fun k => (a2.2 k).back ha hd _ (h2.2 k)⟩, h4⟩
  | deferred o => exact h
theorem HRel.back {ρ ρ' : Rho} {h h' : H} {W W' : World} (h0 : HRel ρ h W) (h1 : HRel ρ' h' W') (hx : Ext ρ h W ρ' h' W') (hf : Fr h h') : HRel ρ h W' ∧ Ext ρ h W ρ h W' := by
  have ha : Agree ρ ρ' h.next := fun b hb => hx.old b hb
  have hd : ∀ b r, ρ b = some r → b < h.next := fun b r e => (h0.dom b r e).1
  refine ⟨⟨?_, ?_, ?_, h0.fresh⟩, ⟨ρ.le_refl, hx.size, hx.os, hx.tape, hx.output, hx.kept, ?_, Nat.le_refl _, fun _ _ => rfl⟩⟩
  · intro b x r e1 e2
    have hb := hd b r e2
    exact (h0.obj b x r e1 e2).back ha hd (h1.obj b x r ((hf.old b hb).trans e1) ((ha b hb).trans e2))
  · intro b b' x x' r r' e1 e1' e2 e2' hne hro
    have hb := hd b r e2
    have hb' := hd b' r' e2'
    exact h1.inj b b' x x' r r' ((hf.old b hb).trans e1) ((hf.old b' hb').trans e1') ((ha b hb).trans e2) ((ha b' hb').trans e2') hne hro
  · intro b r e
    have := h0.dom b r e
    exact ⟨this.1, Nat.lt_of_lt_of_le this.2 hx.size⟩
  · intro b x r e1 e2 e3 _
    exact ⟨b, x, r, e1, e2, e3, rfl⟩
theorem flat_rel {v : Value} : ∀ {ρ ρ' : Rho} {V : Value}, flat v = true → VRel ρ' v V → VRel ρ v V := by
  intro ρ ρ' V hf h
  revert hf
  refine VRel.rec (motive_1 := fun v V _ => flat v = true → VRel ρ v V) (motive_2 := fun l L _ => flatL l = true → VRels ρ l L) ?_ ?_ ?_ ?_ ?_ ?_ ?_ ?_ ?_ ?_ ?_ ?_ ?_ ?_ ?_ ?_ ?_ ?_ ?_ h
  · exact fun V _ => .unk V
  · exact fun b _ => .bool b
  · exact fun k n _ => .int k n
  · exact fun k n _ => .float k n
  · exact fun s _ => .string s
  · exact fun _ => .pnil
  · intro b o r e h; simp [flat] at h
  · exact fun l c _ => .snil l c
  · intro b o l c A C r e hs h; simp [flat] at h
  · exact fun _ => .mnil
  · intro b r e h; simp [flat] at h
  · intro f F a A c C hf _ _ ia ic h; simp [flat] at h
  · exact fun _ => .nilFunc
  · intro t v V _ ih h; exact .iface t v V (ih (by simpa [flat] using h))
  · exact fun _ => .nilIface
  · intro c C _ ih h; exact .agg c C (ih (by obtain ⟨l⟩ := c; simpa [flat] using h))
  · intro c C _ ih h; exact .tuple c C (ih (by obtain ⟨l⟩ := c; simpa [flat] using h))
  · exact fun _ => .nil
  · intro v V l L _ _ ih il h
    simp only [flatL, Bool.and_eq_true] at h
    exact .cons v V l L (ih h.1) (il h.2)
/-- a call that leaves nothing, and answers a flat value -/
theorem CallW.flat {f : FuncId} {args : List Value} {h : H} {Q : Value → Prop} (x : CallW P f args h fun v h' => (flat v = true ∧ Q v) ∧ Fr h h') : CallW P f args h fun v h' => h' = h ∧ Q v := by
  refine ⟨x.1, ?_, fun ρ ARGS W hA hH => (x.2.2 ρ ARGS W hA hH).mono fun e W' => ?_⟩
  · obtain ⟨v, _, ⟨_, q⟩, _⟩ := x.2.1
    exact ⟨v, h, rfl, q⟩
  · rintro ⟨v, h', ⟨⟨hr, q⟩, hf⟩, hp⟩
    refine ⟨v, h, ⟨rfl, q⟩, ?_⟩
    cases e with
    | returned V =>
      obtain ⟨ρ', k1, k2, k3⟩ := hp
      obtain ⟨q1, q2⟩ := hH.back k2 k3 hf
      exact ⟨ρ, flat_rel hr k1, q1, q2⟩
    | panicked _ => exact hp.elim
    | outgrown => exact hp.elim
theorem CallW.pure {f : FuncId} {args : List Value} {h : H} {r : Value} (x : CallW P f args h fun v h' => v = r ∧ Fr h h') (hr : X.flat r = true) : SoundCall P f args h (.v r h) :=
  ((CallW.flat (Q := fun v => v = r) (x.mono fun v h' q => ⟨⟨by rw [q.1]; exact hr, q.1⟩, q.2⟩)).mono fun v h' q => ⟨q.2, q.1⟩).one
/-- a call is followed by what holds -/
theorem CP_of {f : FuncId} {args : List Value} {h : H} {v : Value} {h' : H} {K : Value → H → Prop} (hc : SoundCall P f args h (.v v h')) (hk : K v h') : callP P f args h K := .call (.of hc hk)
end Go.X
