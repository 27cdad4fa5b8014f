/- A part of the evaluator of the model, and of the proof that what it answers is what a call comes to. No conditions of its own. -/
import Derived.Test.YthbmhdlbphkljaaGreatDoorXb
import Derived.Tactics
namespace Go.X
open Go

/-- where a place of the evaluator's heap lies: its block, where it begins in it, how many cells are known, its element's cells where it may go on (0: it ends there), the row's true size -/
structure RI where
  blk : Nat
  base : Nat
  n : Nat
  osz : Nat
  S : Nat
abbrev Rho := Nat → Option RI
def Rho.le (ρ ρ' : Rho) : Prop := ∀ b r, ρ b = some r → ρ' b = some r
theorem Rho.le_refl (ρ : Rho) : ρ.le ρ := fun _ _ h => h
theorem Rho.le_trans {a b c : Rho} (h : a.le b) (k : b.le c) : a.le c := fun _ _ e => k _ _ (h _ _ e)

/-- a slice's address and capacity -/
def SRel (r : RI) (o l c : Nat) (A : Addr) (C : Nat) : Prop :=
  if r.osz ≠ 0 ∧ o + c * r.osz = r.n then
    c ≤ C ∧ ((A = ⟨r.blk, r.base + o, none⟩ ∧ r.base + o + C * r.osz ≤ r.S) ∨ (l = 0 ∧ c = 0 ∧ C = 0))
  else A = ⟨r.blk, r.base + o, none⟩ ∧ C = c

inductive FnRel (ρ : Rho) : Fn → Fn → Prop
  | func (f : FuncId) : FnRel ρ (.func f) (.func f)
  | method (s : String) : FnRel ρ (.method s) (.method s)
  | yield (l : Nat) (r : RI) (h : ρ l = some r) : FnRel ρ (.yield l) (.yield r.blk)

mutual
inductive VRel (ρ : Rho) : Value → Value → Prop
  /-- a value of which nothing is known -/
  | unk (V : Value) : VRel ρ (.chan (some 0)) V
  | bool (b : Bool) : VRel ρ (.bool b) (.bool b)
  | int (k : IntKind) (n : Int) : VRel ρ (.int k n) (.int k n)
  | float (k : FloatKind) (n : Nat) : VRel ρ (.float k n) (.float k n)
  | string (s : ByteArray) : VRel ρ (.string s) (.string s)
  | pnil : VRel ρ (.pointer none) (.pointer none)
  | ptr (b o : Nat) (r : RI) (h : ρ b = some r) : VRel ρ (.pointer (some ⟨b, o, none⟩)) (.pointer (some ⟨r.blk, r.base + o, none⟩))
  | snil (l c : Nat) : VRel ρ (.slice none l c) (.slice none l c)
  | slice (b o l c : Nat) (A : Addr) (C : Nat) (r : RI) (h : ρ b = some r) (hs : SRel r o l c A C) : VRel ρ (.slice (some ⟨b, o, none⟩) l c) (.slice (some A) l C)
  | mnil : VRel ρ (.map none) (.map none)
  | map (b : Nat) (r : RI) (h : ρ b = some r) : VRel ρ (.map (some b)) (.map (some r.blk))
  | func (f F : Fn) (a A c C : Array Value) (h : FnRel ρ f F) (ha : VRels ρ a.toList A.toList) (hc : VRels ρ c.toList C.toList) : VRel ρ (.func f a c) (.func F A C)
  | nilFunc : VRel ρ .nilFunc .nilFunc
  | iface (t : TypeId) (v V : Value) (h : VRel ρ v V) : VRel ρ (.iface t v) (.iface t V)
  | nilIface : VRel ρ .nilIface .nilIface
  | agg (c C : Array Value) (h : VRels ρ c.toList C.toList) : VRel ρ (.agg c) (.agg C)
  | tuple (c C : Array Value) (h : VRels ρ c.toList C.toList) : VRel ρ (.tuple c) (.tuple C)
inductive VRels (ρ : Rho) : List Value → List Value → Prop
  | nil : VRels ρ [] []
  | cons (v V : Value) (l L : List Value) (h : VRel ρ v V) (hl : VRels ρ l L) : VRels ρ (v :: l) (V :: L)
end

theorem FnRel.mono {ρ ρ' : Rho} (h : ρ.le ρ') {f F : Fn} (hf : FnRel ρ f F) : FnRel ρ' f F := by
  cases hf with
  | func f => exact .func f
  | method s => exact .method s
  | yield l r e => exact .yield l r (h _ _ e)
theorem VRel.mono {ρ ρ' : Rho} (h : ρ.le ρ') {v V : Value} (hv : VRel ρ v V) : VRel ρ' v V := by
  refine VRel.rec (motive_1 := fun v V _ => VRel ρ' v V) (motive_2 := fun l L _ => VRels ρ' l L) ?_ ?_ ?_ ?_ ?_ ?_ ?_ ?_ ?_ ?_ ?_ ?_ ?_ ?_ ?_ ?_ ?_ ?_ ?_ hv
  · exact fun V => .unk V
  · exact fun b => .bool b
  · exact fun k n => .int k n
  · exact fun k n => .float k n
  · exact fun s => .string s
  · exact .pnil
  · exact fun b o r e => .ptr b o r (h _ _ e)
  · exact fun l c => .snil l c
  · exact fun b o l c A C r e hs => .slice b o l c A C r (h _ _ e) hs
  · exact .mnil
  · exact fun b r e => .map b r (h _ _ e)
  · exact fun f F a A c C hf _ _ ia ic => .func f F a A c C (hf.mono h) ia ic
  · exact .nilFunc
  · exact fun t v V _ ih => .iface t v V ih
  · exact .nilIface
  · exact fun c C _ ih => .agg c C ih
  · exact fun c C _ ih => .tuple c C ih
  · exact .nil
  · exact fun v V l L _ _ ih il => .cons v V l L ih il
theorem VRels.mono {ρ ρ' : Rho} (h : ρ.le ρ') {l L : List Value} (hl : VRels ρ l L) : VRels ρ' l L := by
  induction l generalizing L with
  | nil => cases hl; exact .nil
  | cons v l ih => cases hl with | cons _ V _ L hv hl => exact .cons _ _ _ _ (hv.mono h) (ih hl)
theorem VRels.length {ρ : Rho} {l L : List Value} (h : VRels ρ l L) : l.length = L.length := by
  induction l generalizing L with
  | nil => cases h; rfl
  | cons v l ih => cases h with | cons _ V _ L hv hl => simp [ih hl]
theorem VRels.get {ρ : Rho} {l L : List Value} (h : VRels ρ l L) : ∀ (i : Nat) (v : Value), l[i]? = some v → ∃ V, L[i]? = some V ∧ VRel ρ v V := by
  induction l generalizing L with
  | nil => intro i v e; simp at e
  | cons u l ih =>
    cases h with
    | cons _ V _ L hv hl =>
      intro i v e
      cases i with
      | zero => simp at e; subst e; exact ⟨V, rfl, hv⟩
      | succ i => simpa using ih hl i v (by simpa using e)
theorem VRels.of_get {ρ : Rho} : ∀ {l L : List Value}, l.length = L.length → (∀ (i : Nat) (v : Value), l[i]? = some v → ∃ V, L[i]? = some V ∧ VRel ρ v V) → VRels ρ l L := by
  intro l
  induction l with
  | nil => intro L hl _; cases L with
    | nil => exact .nil
    | cons _ _ => simp at hl
  | cons v l ih =>
    intro L hl h
    cases L with
    | nil => simp at hl
    | cons V L =>
      obtain ⟨V', e, hv⟩ := h 0 v rfl
      simp at e; subst e
      exact .cons _ _ _ _ hv (ih (by simpa using hl) fun i u e => by simpa using h (i + 1) u (by simpa using e))
theorem VRels.append {ρ : Rho} {a A b B : List Value} (h : VRels ρ a A) (k : VRels ρ b B) : VRels ρ (a ++ b) (A ++ B) := by
  induction a generalizing A with
  | nil => cases h; exact k
  | cons v l ih => cases h with | cons _ V _ L hv hl => exact .cons _ _ _ _ hv (ih hl)
theorem VRels.take {ρ : Rho} {a A : List Value} (h : VRels ρ a A) (n : Nat) : VRels ρ (a.take n) (A.take n) := by
  induction a generalizing A n with
  | nil => cases h; simp; exact .nil
  | cons v l ih => cases h with | cons _ V _ L hv hl => cases n with
    | zero => exact .nil
    | succ n => exact .cons _ _ _ _ hv (ih hl n)
theorem VRels.drop {ρ : Rho} {a A : List Value} (h : VRels ρ a A) (n : Nat) : VRels ρ (a.drop n) (A.drop n) := by
  induction a generalizing A n with
  | nil => cases h; simp; exact .nil
  | cons v l ih => cases h with | cons _ V _ L hv hl => cases n with
    | zero => exact .cons _ _ _ _ hv hl
    | succ n => exact ih hl n

/-- temporaries -/
def TRel (ρ : Rho) (b : B) (tmps : Array Value) : Prop := Sz b tmps.size ∧ ∀ k, VRel ρ (b.get k) (tmps.getD k Go.undef)
theorem VRel.undef (ρ : Rho) : VRel ρ Go.undef Go.undef := .tuple _ _ .nil
theorem TRel.mono {ρ ρ' : Rho} (h : ρ.le ρ') {b : B} {t : Array Value} (ht : TRel ρ b t) : TRel ρ' b t := ⟨ht.1, fun k => (ht.2 k).mono h⟩
theorem TRel.set {ρ : Rho} {b : B} {t : Array Value} (h : TRel ρ b t) (d : Nat) {v V : Value} (hv : VRel ρ v V) : TRel ρ (b.set d v) (t.setIfInBounds d V) := by
  refine ⟨by simpa using h.1.set d v, fun k => ?_⟩
  rw [h.1.get_set]
  have hk := h.2 k
  by_cases e : k = d ∧ d < t.size
  · rw [if_pos e]
    obtain ⟨rfl, hd⟩ := e
    have : (t.setIfInBounds k V).getD k Go.undef = V := by simp [hd]
    rw [this]; exact hv
  · rw [if_neg e]
    have : (t.setIfInBounds d V).getD k Go.undef = t.getD k Go.undef := by
      by_cases hkd : d = k
      · subst hkd
        have hd : ¬ d < t.size := fun hd => e ⟨rfl, hd⟩
        simp [hd]
      · simp [hkd]
    rw [this]; exact hk
theorem TRel.put {ρ : Rho} {b : B} {t : Array Value} (h : TRel ρ b t) (d : Option Nat) {v V : Value} (hv : VRel ρ v V) :
    TRel ρ (putT b d v) (match d with | some d => t.setIfInBounds d V | none => t) := by
  cases d with
  | none => exact h
  | some d => exact h.set d hv

/-- entries of a map -/
inductive ERels (ρ : Rho) : List MapEntry → List MapEntry → Prop
  | nil : ERels ρ [] []
  | cons (e E : MapEntry) (l L : List MapEntry) (hk : VRel ρ e.key E.key) (hv : VRel ρ e.val E.val) (hb : e.born = E.born) (hl : ERels ρ l L) : ERels ρ (e :: l) (E :: L)
theorem ERels.mono {ρ ρ' : Rho} (h : ρ.le ρ') {l L : List MapEntry} (hl : ERels ρ l L) : ERels ρ' l L := by
  induction hl with
  | nil => exact .nil
  | cons e E l L hk hv hb _ ih => exact .cons e E l L (hk.mono h) (hv.mono h) hb ih

def ORel (ρ : Rho) (r : RI) (W : World) : AObj → Prop
  | .row x => ∃ C F, W.heap[r.blk]? = some (.cells C x.elem F) ∧ C.size = r.S ∧ r.n = x.cs.length ∧ (r.osz = x.osz ∧ (x.osz = 0 → r.base = 0)) ∧ r.base + r.n ≤ r.S ∧
      (∀ i v, x.cs[i]? = some v → ∃ V, C[r.base + i]? = some V ∧ VRel ρ v V) ∧
      (x.ro = false → ∀ j, r.base + x.frz ≤ j → j < r.S + (if x.osz = 0 then 1 else 0) → ¬ (F.1 ≤ j ∧ j < F.2))
  | .map es clock => ∃ ES, W.heap[r.blk]? = some (.map ES clock) ∧ ERels ρ es ES.toList
  | .iter s pos => W.heap[r.blk]? = some (.stringIter s pos)
  | .loop state pending _ tmps params assign body _ =>
      ∃ T fn d, TRel ρ tmps T ∧ W.heap[r.blk]? = some (.loop { state, pending, fn, tmps := T, params := params.toArray, assign, body, defers := d })
  | .deferred o => W.heap[r.blk]? = some (.deferred (if o then some [] else none))

theorem ORel.mono {ρ ρ' : Rho} (h : ρ.le ρ') {r : RI} {W W' : World} {x : AObj} (hx : ORel ρ r W x) (hb : W'.heap[r.blk]? = W.heap[r.blk]?) : ORel ρ' r W' x := by
  cases x with
  | row x =>
    obtain ⟨C, F, h1, h2, h3, h4, h5, h6, h7⟩ := hx
    refine ⟨C, F, hb.trans h1, h2, h3, h4, h5, fun i v e => ?_, h7⟩
    obtain ⟨V, e', hv⟩ := h6 i v e
    exact ⟨V, e', hv.mono h⟩
  | map es clock => obtain ⟨ES, h1, h2⟩ := hx; exact ⟨ES, hb.trans h1, h2.mono h⟩
  | iter s pos => exact hb.trans hx
  | loop state pending fn tmps params assign body d =>
    obtain ⟨T, fn, d, h2, h4⟩ := hx
    exact ⟨T, fn, d, h2.mono h, hb.trans h4⟩
  | deferred o => exact hb.trans hx

/-- is a place only read? -/
def roB : AObj → Bool | .row x => x.ro | _ => false

structure HRel (ρ : Rho) (h : H) (W : World) : Prop where
  obj : ∀ b x r, h.get b = some x → ρ b = some r → ORel ρ r W x
  inj : ∀ b b' x x' r r', h.get b = some x → h.get b' = some x' → ρ b = some r → ρ b' = some r' → b ≠ b' → (roB x && roB x') = false → r.blk ≠ r'.blk
  dom : ∀ b r, ρ b = some r → b < h.next ∧ r.blk < W.heap.size
  fresh : ∀ b, h.next ≤ b → h.get b = none

/-- what a piece of a run does: what lay there and is not the evaluator's own is as it was -/
structure Ext (ρ : Rho) (h : H) (W : World) (ρ' : Rho) (h' : H) (W' : World) : Prop where
  le : ρ.le ρ'
  size : W.heap.size ≤ W'.heap.size
  os : W'.os = W.os
  tape : W'.tape = W.tape
  output : W'.output = W.output
  kept : ∀ B, B < W.heap.size → (∀ b x r, h.get b = some x → roB x = false → ρ b = some r → r.blk ≠ B) → W'.heap[B]? = W.heap[B]?
  own : ∀ b x r, h'.get b = some x → roB x = false → ρ' b = some r → r.blk < W.heap.size → ∃ b0 x0 r0, h.get b0 = some x0 ∧ roB x0 = false ∧ ρ b0 = some r0 ∧ r0.blk = r.blk
  next : h.next ≤ h'.next
  old : ∀ b, b < h.next → ρ' b = ρ b

theorem Ext.refl (ρ : Rho) (h : H) (W : World) : Ext ρ h W ρ h W :=
  ⟨ρ.le_refl, Nat.le_refl _, rfl, rfl, rfl, fun _ _ _ => rfl, fun b x r h1 h2 h3 _ => ⟨b, x, r, h1, h2, h3, rfl⟩, Nat.le_refl _, fun _ _ => rfl⟩
theorem Ext.trans {ρ ρ1 ρ2 : Rho} {h h1 h2 : H} {W W1 W2 : World} (a : Ext ρ h W ρ1 h1 W1) (b : Ext ρ1 h1 W1 ρ2 h2 W2) : Ext ρ h W ρ2 h2 W2 := by
  refine ⟨Rho.le_trans a.le b.le, Nat.le_trans a.size b.size, b.os.trans a.os, b.tape.trans a.tape, b.output.trans a.output, ?_, ?_, Nat.le_trans a.next b.next, ?_⟩
  · intro B hB hn
    rw [b.kept B (Nat.lt_of_lt_of_le hB a.size) ?_, a.kept B hB hn]
    intro c x r h1 h2 h3 e
    obtain ⟨b0, x0, r0, k1, k2, k3, k4⟩ := a.own c x r h1 h2 h3 (by omega)
    exact hn b0 x0 r0 k1 k2 k3 (k4.trans e)
  · intro c x r h1 h2 h3 h4
    obtain ⟨b1, x1, r1, k1, k2, k3, k4⟩ := b.own c x r h1 h2 h3 (Nat.lt_of_lt_of_le h4 a.size)
    obtain ⟨b0, x0, r0, l1, l2, l3, l4⟩ := a.own b1 x1 r1 k1 k2 k3 (by omega)
    exact ⟨b0, x0, r0, l1, l2, l3, l4.trans k4⟩
  · intro c hc
    rw [b.old c (Nat.lt_of_lt_of_le hc a.next), a.old c hc]

/-- the heap's words -/
theorem H.get_put (h : H) (b c : Nat) (x : AObj) : (h.put b x).get c = if c = b then some x else h.get c := by
  show T.get (T.set (b + 1) h.t b (some x)) c = _
  rw [T.get_set _ _ _ _ _ (Nat.lt_succ_self b)]; rfl
theorem H.get_del (h : H) (b c : Nat) : (h.del b).get c = if c = b then none else h.get c := by
  show T.get (T.set (b + 1) h.t b none) c = _
  rw [T.get_set _ _ _ _ _ (Nat.lt_succ_self b)]; rfl
theorem H.get_new (h : H) (c : Nat) (x : AObj) : (h.new x).get c = if c = h.next then some x else h.get c := by
  show T.get (T.set (h.next + 1) h.t h.next (some x)) c = _
  rw [T.get_set _ _ _ _ _ (Nat.lt_succ_self _)]; rfl
theorem H.next_put (h : H) (b : Nat) (x : AObj) : (h.put b x).next = h.next := rfl
theorem H.next_del (h : H) (b : Nat) : (h.del b).next = h.next := rfl
theorem H.next_new (h : H) (x : AObj) : (h.new x).next = h.next + 1 := rfl
theorem H.row_get {h : H} {b : Nat} {x : Blk} (e : h.row b = some x) : h.get b = some (.row x) := by
  unfold H.row at e
  split at e
  · rename_i y hy; cases e; exact hy
  · cases e

/-- a draw turns nothing -/
theorem HRel.drew {ρ : Rho} {h : H} {W W' : World} (hH : HRel ρ h W) (hh : W'.heap = W.heap) : HRel ρ h W' :=
  ⟨fun b x r h1 h2 => (hH.obj b x r h1 h2).mono ρ.le_refl (by rw [hh]), hH.inj, fun b r e => by rw [hh]; exact hH.dom b r e, hH.fresh⟩
theorem Ext.drew {ρ : Rho} {h : H} {W W' : World} (hh : W'.heap = W.heap) (h1 : W'.os = W.os) (h2 : W'.tape = W.tape) (h3 : W'.output = W.output) : Ext ρ h W ρ h W' :=
  ⟨ρ.le_refl, by rw [hh]; exact Nat.le_refl _, h1, h2, h3, fun _ _ _ => by rw [hh], fun b x r h1 h2 h3 _ => ⟨b, x, r, h1, h2, h3, rfl⟩, Nat.le_refl _, fun _ _ => rfl⟩

/-- one more place -/
def Rho.add (ρ : Rho) (b : Nat) (r : RI) : Rho := fun c => if c = b then some r else ρ c
theorem Rho.add_le (ρ : Rho) (b : Nat) (r : RI) (h : ρ b = none) : ρ.le (ρ.add b r) := by
  intro c q e
  show (if c = b then some r else ρ c) = some q
  rw [if_neg (fun hc => by subst hc; rw [h] at e; cases e)]; exact e
theorem Rho.add_same (ρ : Rho) (b : Nat) (r : RI) : (ρ.add b r) b = some r := if_pos rfl

/-- a new block, at a new place -/
theorem HRel.new {ρ : Rho} {h : H} {W W' : World} (hH : HRel ρ h W) (o : Obj) (x : AObj) (r : RI) (hW : W'.heap = W.heap.push o) (hr : r.blk = W.heap.size)
    (ho : ORel (ρ.add h.next r) r W' x) : HRel (ρ.add h.next r) (h.new x) W' := by
  have hnone : ρ h.next = none := by
    cases e : ρ h.next with
    | none => rfl
    | some q => have := (hH.dom _ _ e).1; omega
  have hle := ρ.add_le h.next r hnone
  have hold : ∀ k, k < W.heap.size → W'.heap[k]? = W.heap[k]? := fun k hk => by rw [hW, Array.getElem?_push, if_neg (by omega)]
  refine ⟨?_, ?_, ?_, ?_⟩
  · intro b y q h1 h2
    rw [H.get_new] at h1
    by_cases e : b = h.next
    · subst e
      rw [if_pos rfl] at h1; cases h1
      rw [Rho.add_same] at h2; cases h2
      exact ho
    · rw [if_neg e] at h1
      have h2' : ρ b = some q := by
        have : (ρ.add h.next r) b = ρ b := if_neg e
        rw [this] at h2; exact h2
      exact (hH.obj b y q h1 h2').mono hle (hold _ (hH.dom _ _ h2').2)
  · intro b b' y y' q q' h1 h1' h2 h2' hne hro
    rw [H.get_new] at h1 h1'
    by_cases e : b = h.next
    · subst e
      rw [Rho.add_same] at h2; cases h2
      rw [if_neg (fun hc => hne hc.symm)] at h1'
      have h2'' : ρ b' = some q' := by
        have : (ρ.add h.next r) b' = ρ b' := if_neg (fun hc => hne hc.symm)
        rw [this] at h2'; exact h2'
      have := (hH.dom _ _ h2'').2
      omega
    · rw [if_neg e] at h1
      have h2a : ρ b = some q := by
        have : (ρ.add h.next r) b = ρ b := if_neg e
        rw [this] at h2; exact h2
      by_cases e' : b' = h.next
      · subst e'
        rw [Rho.add_same] at h2'; cases h2'
        have := (hH.dom _ _ h2a).2
        omega
      · rw [if_neg e'] at h1'
        have h2b : ρ b' = some q' := by
          have : (ρ.add h.next r) b' = ρ b' := if_neg e'
          rw [this] at h2'; exact h2'
        exact hH.inj b b' y y' q q' h1 h1' h2a h2b hne hro
  · intro b q h1
    have hs : W'.heap.size = W.heap.size + 1 := by rw [hW]; simp
    by_cases e : b = h.next
    · subst e
      rw [Rho.add_same] at h1; cases h1
      rw [H.next_new, hs, hr]; omega
    · have : (ρ.add h.next r) b = ρ b := if_neg e
      rw [this] at h1
      have := hH.dom _ _ h1
      rw [H.next_new, hs]; omega
  · intro b hb
    rw [H.next_new] at hb
    rw [H.get_new, if_neg (by omega)]
    exact hH.fresh b (by omega)
theorem Ext.new {ρ : Rho} {h : H} {W W' : World} (hH : HRel ρ h W) (o : Obj) (x : AObj) (r : RI) (hW : W'.heap = W.heap.push o) (hr : r.blk = W.heap.size)
    (h1 : W'.os = W.os) (h2 : W'.tape = W.tape) (h3 : W'.output = W.output) : Ext ρ h W (ρ.add h.next r) (h.new x) W' := by
  have hnone : ρ h.next = none := by
    cases e : ρ h.next with
    | none => rfl
    | some q => have := (hH.dom _ _ e).1; omega
  refine ⟨ρ.add_le h.next r hnone, by rw [hW]; simp, h1, h2, h3, ?_, ?_, by rw [H.next_new]; omega, ?_⟩
  · intro B hB _; rw [hW, Array.getElem?_push, if_neg (by omega)]
  · intro b y q k1 k2 k3 k4
    rw [H.get_new] at k1
    by_cases e : b = h.next
    · subst e
      rw [Rho.add_same] at k3; cases k3
      omega
    · rw [if_neg e] at k1
      have : (ρ.add h.next r) b = ρ b := if_neg e
      rw [this] at k3
      exact ⟨b, y, q, k1, k2, k3, rfl⟩
  · intro b hb
    show (if b = h.next then some r else ρ b) = ρ b
    rw [if_neg (by omega)]

/-- a block turned -/
theorem HRel.putA {ρ : Rho} {h : H} {W W' : World} (hH : HRel ρ h W) (b : Nat) (x x' : AObj) (r : RI) (hx : h.get b = some x) (hro : roB x = false) (hr : ρ b = some r)
    (hs : W'.heap.size = W.heap.size) (hk : ∀ B, B ≠ r.blk → W'.heap[B]? = W.heap[B]?) (ho : ORel ρ r W' x') : HRel ρ (h.put b x') W' := by
  refine ⟨?_, ?_, ?_, ?_⟩
  · intro c y q h1 h2
    rw [H.get_put] at h1
    by_cases e : c = b
    · subst e
      rw [if_pos rfl] at h1; cases h1
      rw [hr] at h2; cases h2
      exact ho
    · rw [if_neg e] at h1
      exact (hH.obj c y q h1 h2).mono ρ.le_refl (hk _ (hH.inj c b y x q r h1 hx h2 hr e (by rw [hro]; simp)))
  · intro c c' y y' q q' h1 h1' h2 h2' hne hro2
    rw [H.get_put] at h1 h1'
    by_cases e : c = b
    · subst e
      rw [if_neg (fun hc => hne hc.symm)] at h1'
      exact hH.inj c c' x y' q q' hx h1' h2 h2' hne (by rw [hro]; rfl)
    · rw [if_neg e] at h1
      by_cases e' : c' = b
      · subst e'
        exact hH.inj c c' y x q q' h1 hx h2 h2' hne (by rw [hro]; simp)
      · rw [if_neg e'] at h1'
        exact hH.inj c c' y y' q q' h1 h1' h2 h2' hne hro2
  · intro c q e; rw [H.next_put, hs]; exact hH.dom c q e
  · intro c hc
    rw [H.get_put, if_neg ?_]
    · exact hH.fresh c hc
    · intro e; subst e; have := hH.fresh c hc; rw [hx] at this; cases this
theorem HRel.put {ρ : Rho} {h : H} {W W' : World} (hH : HRel ρ h W) (b : Nat) (x x' : AObj) (r : RI) (hx : h.get b = some x) (hro : roB x = false) (hro' : roB x' = false) (hr : ρ b = some r)
    (hs : W'.heap.size = W.heap.size) (hk : ∀ B, B ≠ r.blk → W'.heap[B]? = W.heap[B]?) (ho : ORel ρ r W' x') : HRel ρ (h.put b x') W' := hH.putA b x x' r hx hro hr hs hk ho
theorem Ext.put {ρ : Rho} {h : H} {W W' : World} (b : Nat) (x x' : AObj) (r : RI) (hx : h.get b = some x) (hro : roB x = false) (hr : ρ b = some r)
    (hs : W'.heap.size = W.heap.size) (hk : ∀ B, B ≠ r.blk → W'.heap[B]? = W.heap[B]?) (h1 : W'.os = W.os) (h2 : W'.tape = W.tape) (h3 : W'.output = W.output) : Ext ρ h W ρ (h.put b x') W' := by
  refine ⟨ρ.le_refl, by omega, h1, h2, h3, ?_, ?_, Nat.le_refl _, fun _ _ => rfl⟩
  · intro B _ hn; exact hk B (fun e => hn b x r hx hro hr e.symm)
  · intro c y q k1 k2 k3 _
    rw [H.get_put] at k1
    by_cases e : c = b
    · subst e; exact ⟨c, x, q, hx, hro, k3, rfl⟩
    · rw [if_neg e] at k1; exact ⟨c, y, q, k1, k2, k3, rfl⟩
end Go.X
