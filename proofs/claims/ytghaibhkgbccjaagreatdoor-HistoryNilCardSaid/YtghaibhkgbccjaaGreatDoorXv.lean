/- A part of the evaluator of the model, and of the proof that what it answers is what a call comes to. No conditions of its own. -/
import Derived.Test.YtghaibhkgbccjaaGreatDoorXu
import Derived.Orders
namespace Go.X
open Go
variable {P : Program} {E : Env}

theorem tmpsOf_mem {t : Nat} (l : List Operand) (h : Operand.tmp t ∈ l) : t ∈ tmpsOf l := by
  induction l with
  | nil => cases h
  | cons x l ih =>
    cases h with
    | head => exact .head _
    | tail _ hm =>
      have := ih hm
      cases x with
      | tmp u => exact .tail _ this
      | _ => exact this
theorem optL_mem {d : Nat} {o : Option Nat} {l : List Nat} : d ∈ optL o l ↔ o = some d ∨ d ∈ l := by
  cases o with
  | none => simp [optL]
  | some e =>
    show d ∈ e :: l ↔ _
    simp only [List.mem_cons, Option.some.injEq]
    constructor
    · rintro (h | h); exact .inl h.symm; exact .inr h
    · rintro (h | h); exact .inl h.symm; exact .inr h

/-- what the schedule leans on -/
structure Sched (P : Program) (E : Env) (ops : Array Oper) (ps : List Nat) (al : List (Nat × Nat)) (T : Tr) (N : Nat) (base : Nat) : Prop where
  facts : DrawFacts E ops ps
  laid : Laid base (T.Gt 0).next ops.size al
  sz : Sz (T.Bt 0) N
  step : ∀ (k : Nat) (o : Oper), ops[k]? = some o → ∃ p, ps[k]? = some p ∧ StepOk P E ops al T k o ∧
      (T.wanted ops k o true → cls E o.op ≠ 2 → ∀ (j : Nat) (oj : Oper), j < k → ops[j]? = some oj → T.wanted ops j oj true → cls E oj.op = 2 → bit p j = false → sameObs E al k o (T.Bt k) (T.val k) (T.Gt j) = true) ∧
      (T.wanted ops k o true → cls E o.op = 2 → ∀ (j : Nat) (oj : Oper), j < k → ops[j]? = some oj → T.wanted ops j oj true → cls E oj.op ≠ 2 → bit p j = false → sameObs E al j oj (T.Bt j) (T.val j) (T.Gt (k + 1)) = true)
def WH (E : Env) (ops : Array Oper) (T : Tr) (k : Nat) : Prop := ∃ o, ops[k]? = some o ∧ T.wanted ops k o true ∧ cls E o.op = 2
section sched
variable {ops : Array Oper} {ps : List Nat} {al : List (Nat × Nat)} {T : Tr} {N base : Nat} (S : Sched P E ops ps al T N base)
include S
theorem Sched.szB : ∀ k, k ≤ ops.size → Sz (T.Bt k) N := by
  intro k
  induction k with
  | zero => intro _; exact S.sz
  | succ k ih =>
    intro hk
    obtain ⟨p, _, ⟨hb, _⟩, _⟩ := S.step k ops[k] (Array.getElem?_eq_getElem hk)
    rw [hb]
    have := ih (by omega)
    cases ops[k].dst with
    | none => exact this
    | some d => exact this.set d _
theorem Sched.gconst {x : Nat} : ∀ y, x ≤ y → y ≤ ops.size → (∀ j, x ≤ j → j < y → ¬ WH E ops T j) → T.Gt y = T.Gt x := by
  intro y
  induction y with
  | zero => intro h _ _; have : x = 0 := by omega
            rw [this]
  | succ y ih =>
    intro hx hy hn
    by_cases e : x = y + 1
    · rw [e]
    · rw [← ih (by omega) (by omega) (fun j h1 h2 => hn j h1 (by omega))]
      have ho := Array.getElem?_eq_getElem (xs := ops) (i := y) hy
      obtain ⟨p, _, ⟨_, g, hw, h0, h1⟩, _⟩ := S.step y _ ho
      cases g with
      | false => exact (h0 rfl).2
      | true =>
        by_cases hc : cls E ops[y].op = 2
        · exact absurd ⟨_, ho, hw, hc⟩ (hn y (by omega) (by omega))
        · exact ((h1 rfl).1 hc).2
theorem Sched.bconst {t x : Nat} : ∀ y, x ≤ y → y ≤ ops.size → (∀ j o, x ≤ j → j < y → ops[j]? = some o → o.dst ≠ some t) → (T.Bt y).get t = (T.Bt x).get t := by
  intro y
  induction y with
  | zero => intro h _ _; have : x = 0 := by omega
            rw [this]
  | succ y ih =>
    intro hx hy hn
    by_cases e : x = y + 1
    · rw [e]
    · rw [← ih (by omega) (by omega) (fun j o h1 h2 => hn j o h1 (by omega))]
      have ho := Array.getElem?_eq_getElem (xs := ops) (i := y) hy
      obtain ⟨p, _, ⟨hb, _⟩, _⟩ := S.step y _ ho
      rw [hb]
      have hne := hn y _ (by omega) (by omega) ho
      cases hd : ops[y].dst with
      | none => rfl
      | some d =>
        show ((T.Bt y).set d _).get t = _
        rw [(S.szB y (by omega)).get_set, if_neg (fun q => hne (by rw [hd, q.1]))]
/-- what is listed holds all that it waits for -/
theorem Sched.preds {lst : Nat → Prop} (hcl : ∀ (i : Nat) (o : Oper), lst i → ops[i]? = some o → ∀ e ∈ o.after.toList, Region.binds .any e = true → lst e.on) :
    ∀ (i : Nat) (o : Oper) (p : Nat), ops[i]? = some o → ps[i]? = some p → (∀ e ∈ o.after.toList, Region.binds .any e = true → lst e.on) → ∀ j, bit p j = true → lst j := by
  intro i
  induction i using Nat.strongRecOn with
  | _ i ih =>
    intro o p ho hp he j hj
    obtain ⟨e, hem, hb, q⟩ := S.facts.bits i o p ho hp j hj
    have hon := he e hem hb
    rcases q with q | ⟨q, hq, hbq⟩
    · rw [← q]; exact hon
    · have hlt := S.facts.edge i o ho e hem hb
      have hi : i < ops.size := by
        rcases Nat.lt_or_ge i ops.size with g | g
        · exact g
        · rw [Array.getElem?_eq_none g] at ho; cases ho
      have ho2 := Array.getElem?_eq_getElem (xs := ops) (i := e.on) (by omega)
      exact ih e.on hlt _ q ho2 hq (hcl e.on _ hon ho2) j hbq

end sched
/-- while a schedule runs: 'lst' are the operations behind us -/
structure Inv (E : Env) (ops : Array Oper) (al : List (Nat × Nat)) (T : Tr) (N : Nat) (ρ0 : Rho) (h0 : H) (W0 : World) (D : List Deferred) (lst : Nat → Prop) (a : Act) (w : World) : Prop where
  closed : ∀ (i : Nat) (o : Oper), lst i → ops[i]? = some o → ∀ e ∈ o.after.toList, Region.binds .any e = true → lst e.on
  tsize : a.tmps.size = N
  rest : ∃ ρ : Rho,
    (∀ t : Nat, ∃ j, j ≤ ops.size ∧ VRel ρ ((T.Bt j).get t) (a.tmps.getD t undef) ∧ (∀ (i : Nat) (o : Oper), ops[i]? = some o → o.dst = some t → lst i → i < j) ∧ (∀ (i : Nat) (o : Oper), ops[i]? = some o → o.dst = some t → ¬ lst i → j ≤ i)) ∧
    (∃ k, k ≤ ops.size ∧ HRel ρ (T.Gt k) w ∧ Ext ρ0 h0 W0 ρ (T.Gt k) w ∧ (T.Gt 0).next ≤ (T.Gt k).next ∧ (∀ j, WH E ops T j → lst j → j < k) ∧ (∀ j, WH E ops T j → ¬ lst j → k ≤ j)) ∧
    (∀ i b : Nat, findX i al = some b → ¬ lst i → ρ b = none)
  defers : a.defers = D

section
variable {ops : Array Oper} {ps : List Nat} {al : List (Nat × Nat)} {T : Tr} {N base : Nat} (S : Sched P E ops ps al T N base)
variable {ρ0 : Rho} {h0 : H} {W0 : World} {D : List Deferred} {lst : Nat → Prop} {a : Act} {w : World}
include S
theorem Sched.has {i : Nat} {o : Oper} (ho : ops[i]? = some o) : i < ops.size := by
  have _ := S.sz
  rcases Nat.lt_or_ge i ops.size with g | g
  · exact g
  · rw [Array.getElem?_eq_none g] at ho; cases ho
/-- what an operation whose turn it is reads -/
theorem Sched.reads (I : Inv E ops al T N ρ0 h0 W0 D lst a w) {ρ : Rho} (ht : ∀ t : Nat, ∃ j, j ≤ ops.size ∧ VRel ρ ((T.Bt j).get t) (a.tmps.getD t undef) ∧ (∀ (i : Nat) (o : Oper), ops[i]? = some o → o.dst = some t → lst i → i < j) ∧ (∀ (i : Nat) (o : Oper), ops[i]? = some o → o.dst = some t → ¬ lst i → j ≤ i))
    {i : Nat} {o : Oper} {p : Nat} (ho : ops[i]? = some o) (hp : ps[i]? = some p) (hi : ¬ lst i) (he : ∀ e ∈ o.after.toList, Region.binds .any e = true → lst e.on) :
    ∀ t ∈ namesOf ops.toList o, VRel ρ ((T.Bt i).get t) (a.tmps.getD t undef) := by
  intro t hmem
  obtain ⟨j, hj, hv, h1, h2⟩ := ht t
  have hpre := S.preds I.closed i o p ho hp he
  have hlt := S.has ho
  have e : (T.Bt i).get t = (T.Bt j).get t := by
    rcases Nat.le_total i j with q | q
    · refine (S.bconst j q hj ?_).symm
      intro x ox hx1 hx2 hox hd
      have hl : lst x := Classical.byContradiction fun n => by have := h2 x ox hox hd n; omega
      have hxi : x ≠ i := fun q => hi (q ▸ hl)
      obtain ⟨px, hpx, _⟩ := S.step x ox hox
      have hb := S.facts.clash x i ox o px hox ho (by omega) hpx (.inr (.inl ⟨t, hd, hmem⟩))
      exact hi (S.preds I.closed x ox px hox hpx (I.closed x ox hl hox) i hb)
    · refine S.bconst i q (by omega) ?_
      intro x ox hx1 hx2 hox hd
      have hl : ¬ lst x := fun n => by have := h1 x ox hox hd n; omega
      have hb := S.facts.clash i x o ox p ho hox hx2 hp (.inl ⟨t, hd, hmem⟩)
      exact hl (hpre x hb)
  rw [e]; exact hv
/-- the heap that an operation whose turn it is finds -/
theorem Sched.finds (I : Inv E ops al T N ρ0 h0 W0 D lst a w) {k : Nat} (hk : k ≤ ops.size) (k1 : ∀ j, WH E ops T j → lst j → j < k) (k2 : ∀ j, WH E ops T j → ¬ lst j → k ≤ j)
    {i : Nat} {o : Oper} {p : Nat} (ho : ops[i]? = some o) (hp : ps[i]? = some p) (hi : ¬ lst i) (he : ∀ e ∈ o.after.toList, Region.binds .any e = true → lst e.on) (hw : T.wanted ops i o true) :
    (cls E o.op = 2 → T.Gt i = T.Gt k ∧ k ≤ i) ∧ (cls E o.op ≠ 2 → obs E al i o (T.Bt i) (T.Gt k) = some (T.val i)) := by
  have hpre := S.preds I.closed i o p ho hp he
  have hlt := S.has ho
  constructor
  · intro hc
    have hki := k2 i ⟨o, ho, hw, hc⟩ hi
    refine ⟨S.gconst i hki (by omega) ?_, hki⟩
    rintro j h1 h2 ⟨oj, hoj, hwj, hcj⟩
    have hb := S.facts.clash i j o oj p ho hoj h2 hp (.inr (.inr ⟨hcj, hc⟩))
    have := k1 j ⟨oj, hoj, hwj, hcj⟩ (hpre j hb)
    omega
  · intro hc
    obtain ⟨p', hp', ⟨_, g, hg, _, h1⟩, hx1, hx2⟩ := S.step i o ho
    rw [hp] at hp'; cases hp'
    have hgt : g = true := by
      have q1 : guardOk ops (T.Bt i) o = some g := hg
      have q2 : guardOk ops (T.Bt i) o = some true := hw
      rw [q1] at q2; cases q2; rfl
    obtain ⟨hobs, _⟩ := (h1 hgt).1 hc
    by_cases hex : ∃ j, k ≤ j ∧ j < i ∧ WH E ops T j
    · -- the first heavy one ahead that is not behind us
      have : ∃ j, (k ≤ j ∧ j < i ∧ WH E ops T j) ∧ ∀ m, m < j → ¬ (k ≤ m ∧ m < i ∧ WH E ops T m) := by
        obtain ⟨j, hj⟩ := hex
        induction j using Nat.strongRecOn with
        | _ j ih =>
          by_cases q : ∃ m, m < j ∧ (k ≤ m ∧ m < i ∧ WH E ops T m)
          · obtain ⟨m, hm, hmm⟩ := q; exact ih m hm hmm
          · exact ⟨j, hj, fun m hm hmm => q ⟨m, hm, hmm⟩⟩
      obtain ⟨j, ⟨j1, j2, oj, hoj, hwj, hcj⟩, hmin⟩ := this
      have hnl : ¬ lst j := fun hl => by have := k1 j ⟨oj, hoj, hwj, hcj⟩ hl; omega
      have hb : bit p j = false := by
        cases q : bit p j with
        | false => rfl
        | true => exact absurd (hpre j q) hnl
      have hg' := S.gconst j j1 (by omega) fun m m1 m2 hm => hmin m m2 ⟨m1, by omega, hm⟩
      rw [← hg']
      exact sameObs_eq (hx1 hw hc j oj j2 hoj hwj hcj hb)
    · by_cases hex2 : ∃ j, i ≤ j ∧ j < k ∧ WH E ops T j
      · have : ∃ j, (i ≤ j ∧ j < k ∧ WH E ops T j) ∧ ∀ m, j < m → m < k → ¬ WH E ops T m := by
          have gen : ∀ d j, k - j = d → (i ≤ j ∧ j < k ∧ WH E ops T j) → ∃ j, (i ≤ j ∧ j < k ∧ WH E ops T j) ∧ ∀ m, j < m → m < k → ¬ WH E ops T m := by
            intro d
            induction d using Nat.strongRecOn with
            | _ d ih =>
              intro j hd hj
              by_cases q : ∃ m, j < m ∧ m < k ∧ WH E ops T m
              · obtain ⟨m, m1, m2, m3⟩ := q
                exact ih (k - m) (by omega) m rfl ⟨by omega, m2, m3⟩
              · exact ⟨j, hj, fun m m1 m2 m3 => q ⟨m, m1, m2, m3⟩⟩
          obtain ⟨j, hj⟩ := hex2
          exact gen _ j rfl hj
        obtain ⟨j, ⟨j1, j2, oj, hoj, hwj, hcj⟩, hmax⟩ := this
        have hl : lst j := Classical.byContradiction fun n => by have := k2 j ⟨oj, hoj, hwj, hcj⟩ n; omega
        have hji : j ≠ i := fun q => hi (q ▸ hl)
        obtain ⟨pj, hpj, _, _, hx2j⟩ := S.step j oj hoj
        have hb : bit pj i = false := by
          cases q : bit pj i with
          | false => rfl
          | true => exact absurd (S.preds I.closed j oj pj hoj hpj (I.closed j oj hl hoj) i q) hi
        have hg' := S.gconst (x := j + 1) k (by omega) hk fun m m1 m2 hm => hmax m (by omega) m2 hm
        rw [hg']
        exact sameObs_eq (hx2j hwj hcj i o (by omega) ho hw hc hb)
      · rcases Nat.le_total i k with q | q
        · rw [S.gconst k q hk fun m m1 m2 hm => hex2 ⟨m, m1, m2, hm⟩]; exact hobs
        · rw [← S.gconst i q (by omega) fun m m1 m2 hm => hex ⟨m, m1, m2, hm⟩]; exact hobs

omit S in
theorem put_get {ρ : Rho} {b : B} {a : Act} {N t : Nat} (hb : Sz b N) (hN : a.tmps.size = N) {v V : Value} (hv : VRel ρ v V) : VRel ρ ((putT b (some t) v).get t) ((a.put (some t) V).tmps.getD t undef) := by
  show VRel ρ ((b.set t v).get t) ((a.tmps.setIfInBounds t V).getD t undef)
  rw [hb.get_set]
  by_cases q : t < N
  · rw [if_pos ⟨rfl, q⟩]
    have : (a.tmps.setIfInBounds t V).getD t undef = V := by simp [hN, q]
    rw [this]; exact hv
  · rw [if_neg (fun h => q h.2), hb.get_out t (by omega)]
    have : (a.tmps.setIfInBounds t V).getD t undef = undef := by simp [hN, q]
    rw [this]; exact VRel.undef ρ
theorem Sched.after (I : Inv E ops al T N ρ0 h0 W0 D lst a w) {ρ ρ' : Rho} (ht : ∀ t : Nat, ∃ j, j ≤ ops.size ∧ VRel ρ ((T.Bt j).get t) (a.tmps.getD t undef) ∧ (∀ (i : Nat) (o : Oper), ops[i]? = some o → o.dst = some t → lst i → i < j) ∧ (∀ (i : Nat) (o : Oper), ops[i]? = some o → o.dst = some t → ¬ lst i → j ≤ i))
    (hle : ρ.le ρ') {i : Nat} {o : Oper} {p : Nat} (ho : ops[i]? = some o) (hp : ps[i]? = some p) (hi : ¬ lst i) (he : ∀ e ∈ o.after.toList, Region.binds .any e = true → lst e.on) {V : Value} (hv : VRel ρ' (T.val i) V) {w' : World}
    (hh : ∃ k, k ≤ ops.size ∧ HRel ρ' (T.Gt k) w' ∧ Ext ρ0 h0 W0 ρ' (T.Gt k) w' ∧ (T.Gt 0).next ≤ (T.Gt k).next ∧ (∀ j, WH E ops T j → (lst j ∨ j = i) → j < k) ∧ (∀ j, WH E ops T j → ¬ (lst j ∨ j = i) → k ≤ j))
    (hvirt : ∀ i' b : Nat, findX i' al = some b → ¬ (lst i' ∨ i' = i) → ρ' b = none) : Inv E ops al T N ρ0 h0 W0 D (fun x => lst x ∨ x = i) (a.put o.dst V) w' := by
  have hpre := S.preds I.closed i o p ho hp he
  have hlt := S.has ho
  obtain ⟨p', hp', ⟨hb, _⟩, _⟩ := S.step i o ho
  refine ⟨?_, ?_, ⟨ρ', ?_, hh, hvirt⟩, ?_⟩
  · intro x ox hx hox e hem hbd
    rcases hx with hx | hx
    · exact .inl (I.closed x ox hx hox e hem hbd)
    · subst hx; rw [ho] at hox; cases hox; exact .inl (he e hem hbd)
  · cases o.dst with
    | none => exact I.tsize
    | some d => show (a.tmps.setIfInBounds d V).size = N; simp [I.tsize]
  · intro t
    by_cases hd : o.dst = some t
    · refine ⟨i + 1, by omega, ?_, ?_, ?_⟩
      · rw [hb, hd]; exact put_get (S.szB i (by omega)) I.tsize hv
      · intro x ox hox hdx hx
        rcases hx with hx | hx
        · refine Classical.byContradiction fun n => ?_
          have hxi : x ≠ i := fun q => hi (q ▸ hx)
          obtain ⟨px, hpx, _⟩ := S.step x ox hox
          have hbb := S.facts.clash x i ox o px hox ho (by omega) hpx (.inl ⟨t, hd, by unfold namesOf; rw [optL_mem]; exact .inl hdx⟩)
          exact hi (S.preds I.closed x ox px hox hpx (I.closed x ox hx hox) i hbb)
        · omega
      · intro x ox hox hdx hx
        refine Classical.byContradiction fun n => ?_
        have hxi : x ≠ i := fun q => hx (.inr q)
        have hbb := S.facts.clash i x o ox p ho hox (by omega) hp (.inl ⟨t, hdx, by unfold namesOf; rw [optL_mem]; exact .inl hd⟩)
        exact hx (.inl (hpre x hbb))
    · obtain ⟨j, hj, hjv, h1, h2⟩ := ht t
      refine ⟨j, hj, ?_, ?_, ?_⟩
      · have : (a.put o.dst V).tmps.getD t undef = a.tmps.getD t undef := by
          cases hq : o.dst with
          | none => rfl
          | some d =>
            have hne : d ≠ t := fun q => hd (by rw [hq, q])
            show (a.tmps.setIfInBounds d V).getD t undef = _
            simp [Array.getElem?_setIfInBounds_ne hne]
        rw [this]; exact hjv.mono hle
      · intro x ox hox hdx hx
        rcases hx with hx | hx
        · exact h1 x ox hox hdx hx
        · subst hx; rw [ho] at hox; cases hox; exact absurd hdx hd
      · intro x ox hox hdx hx
        exact h2 x ox hox hdx fun q => hx (.inl q)
  · cases o.dst with
    | none => exact I.defers
    | some d => exact I.defers
omit S in
/-- a row laid ahead comes to be -/
theorem HRel.real {ρ : Rho} {h : H} {W W' : World} (hH : HRel ρ h W) {b : Nat} {x : Blk} {C : Array Value} (hx : h.get b = some (.row x)) (hr : ρ b = none) (hW : W'.heap = W.heap.push (.cells C x.elem (0, 0))) (hosz : x.osz = 0) (hC : VRels ρ x.cs C.toList) :
    HRel (ρ.add b ⟨W.heap.size, 0, x.cs.length, 0, C.size⟩) h W' ∧ ∀ (ρ0 : Rho) (h0 : H) (W0 : World), h0.next ≤ b → Ext ρ0 h0 W0 ρ h W → W'.os = W.os → W'.tape = W.tape → W'.output = W.output → Ext ρ0 h0 W0 (ρ.add b ⟨W.heap.size, 0, x.cs.length, 0, C.size⟩) h W' := by
  have hle := ρ.add_le b ⟨W.heap.size, 0, x.cs.length, 0, C.size⟩ hr
  have hold : ∀ k, k < W.heap.size → W'.heap[k]? = W.heap[k]? := fun k hk => by rw [hW, Array.getElem?_push, if_neg (by omega)]
  have hs : W'.heap.size = W.heap.size + 1 := by rw [hW]; simp
  have hne : ∀ c, c ≠ b → (ρ.add b ⟨W.heap.size, 0, x.cs.length, 0, C.size⟩) c = ρ c := fun c q => if_neg q
  obtain ⟨hc1, hc2⟩ := rels_get hC
  refine ⟨⟨?_, ?_, ?_, hH.fresh⟩, ?_⟩
  · intro c y r e1 e2
    by_cases q : c = b
    · subst q
      rw [hx] at e1; cases e1
      rw [Rho.add_same] at e2; cases e2
      refine ⟨C, (0, 0), by rw [hW]; simp, rfl, rfl, hosz.symm, by simpa using hc1, ?_, fun _ j _ _ q => absurd q.2 (Nat.not_lt_zero _)⟩
      intro i v e
      obtain ⟨V, hV, hv⟩ := hc2 i v e
      exact ⟨V, by simpa using hV, hv.mono hle⟩
    · rw [hne c q] at e2
      exact (hH.obj c y r e1 e2).mono hle (hold _ (hH.dom _ _ e2).2)
  · intro c c' y y' r r' e1 e1' e2 e2' hcc hro
    by_cases q : c = b
    · subst q
      rw [Rho.add_same] at e2; cases e2
      rw [hne c' (fun q => hcc q.symm)] at e2'
      have := (hH.dom _ _ e2').2
      show W.heap.size ≠ r'.blk
      omega
    · rw [hne c q] at e2
      by_cases q' : c' = b
      · subst q'
        rw [Rho.add_same] at e2'; cases e2'
        have := (hH.dom _ _ e2).2
        show r.blk ≠ W.heap.size
        omega
      · rw [hne c' q'] at e2'
        exact hH.inj c c' y y' r r' e1 e1' e2 e2' hcc hro
  · intro c r e
    by_cases q : c = b
    · subst q
      rw [Rho.add_same] at e; cases e
      refine ⟨?_, by rw [hs]; exact Nat.lt_succ_self _⟩
      refine Classical.byContradiction fun n => ?_
      have := hH.fresh c (by omega)
      rw [hx] at this; cases this
    · rw [hne c q] at e
      have := hH.dom c r e
      rw [hs]; omega
  · intro ρ0 h0 W0 hb X e1 e2 e3
    refine ⟨Rho.le_trans X.le hle, by have := X.size; omega, e1.trans X.os, e2.trans X.tape, e3.trans X.output, ?_, ?_, X.next, ?_⟩
    · intro B hB hn
      rw [hold B (by have := X.size; omega)]
      exact X.kept B hB hn
    · intro c y r k1 k2 k3 k4
      by_cases q : c = b
      · subst q
        rw [Rho.add_same] at k3; cases k3
        have := X.size
        have k4' : W.heap.size < W0.heap.size := k4
        omega
      · rw [hne c q] at k3; exact X.own c y r k1 k2 k3 k4
    · intro c hc
      rw [hne c (by omega)]; exact X.old c hc

/-- one operation, whose turn it is -/
theorem Sched.one (hE : EnvOk P E) (hbase : h0.next ≤ base) (I : Inv E ops al T N ρ0 h0 W0 D lst a w) {i : Nat} {o : Oper} (ho : ops[i]? = some o) (hi : ¬ lst i) (he : ∀ e ∈ o.after.toList, Region.binds .any e = true → lst e.on)
    {Q : Exit → Act → World → Prop} {K : Act → World → Prop} (hK : ∀ a' w', Inv E ops al T N ρ0 h0 W0 D (fun x => lst x ∨ x = i) a' w' → K a' w') : wpOp P ops Q i K a w := by
  obtain ⟨p, hp, ⟨hb, g, hg, hg0, hg1⟩, _⟩ := S.step i o ho
  obtain ⟨ρ, ht, ⟨k, hk, hH, hX, hnx, k1, k2⟩, hvirt⟩ := I.rest
  have hrd := S.reads I ht ho hp hi he
  have hwant := guardOk_rel2 (ρ := ρ) (t := T.Bt i) (a := a) ops o (fun d hd => hrd d (by unfold namesOf; rw [optL_mem, optL_mem]; exact .inr (.inl hd))) hg
  have hops : ∀ x ∈ o.op.operands.toList, VRel ρ (ev (T.Bt i) x) (a.eval x) := by
    intro x hx
    cases x with
    | tmp t => exact hrd t (by unfold namesOf; rw [optL_mem, optL_mem]; exact .inr (.inr (tmpsOf_mem _ hx)))
    | const v => exact constV_rel v ρ
    | global q => exact .unk _
    | func f => exact .func _ _ _ _ _ _ (.func f) .nil .nil
  have hvne : ∀ i' b : Nat, findX i' al = some b → ¬ (lst i' ∨ i' = i) → ρ b = none := fun i' b q n => hvirt i' b q fun r => n (.inl r)
  -- the heap's place where this one is not heavy
  have keep : ¬ WH E ops T i → ∀ (ρ' : Rho) (w' : World), HRel ρ' (T.Gt k) w' → Ext ρ0 h0 W0 ρ' (T.Gt k) w' → ∃ k, k ≤ ops.size ∧ HRel ρ' (T.Gt k) w' ∧ Ext ρ0 h0 W0 ρ' (T.Gt k) w' ∧ (T.Gt 0).next ≤ (T.Gt k).next ∧ (∀ j, WH E ops T j → (lst j ∨ j = i) → j < k) ∧ (∀ j, WH E ops T j → ¬ (lst j ∨ j = i) → k ≤ j) := by
    intro hn ρ' w' q1 q2
    refine ⟨k, hk, q1, q2, hnx, ?_, fun j hj n => k2 j hj fun r => n (.inl r)⟩
    intro j hj hl
    rcases hl with hl | hl
    · exact k1 j hj hl
    · exact absurd (hl ▸ hj) hn
  unfold Go.wpOp
  simp only [ho]
  cases g with
  | false =>
    rw [hwant]
    simp only [Bool.false_eq_true, if_false]
    obtain ⟨hval, _⟩ := hg0 rfl
    have hn : ¬ WH E ops T i := by
      rintro ⟨o', ho', hw', _⟩
      rw [ho] at ho'; cases ho'
      have q1 : guardOk ops (T.Bt i) o = some false := hg
      have q2 : guardOk ops (T.Bt i) o = some true := hw'
      rw [q1] at q2; cases q2
    exact hK _ _ (S.after I ht ρ.le_refl ho hp hi he (by rw [hval]; exact VRel.undef ρ) (keep hn ρ w hH hX) hvne)
  | true =>
    rw [hwant]
    simp only [if_true]
    left
    obtain ⟨hf1, hf2⟩ := S.finds I hk k1 k2 ho hp hi he hg
    have hnext : ∀ (i' b : Nat), findX i' al = some b → b < (T.Gt k).next := fun i' b q => by
      have := (S.laid.range i' b q).2.1; omega
    by_cases hc : cls E o.op = 2
    · obtain ⟨hG, hki⟩ := hf1 hc
      obtain ⟨r, hop, hv⟩ := (hg1 rfl).2 hc
      rw [hG] at hop hv
      refine oper_sound2 hE hops hH hop hv ?_
      intro ρ' V w' q1 q2 q3
      refine hK _ _ (S.after I ht q3.le ho hp hi he q1 ⟨i + 1, S.has ho, q2, hX.trans q3, by have := q3.next; omega, ?_, ?_⟩ ?_)
      · intro j hj hl
        rcases hl with hl | hl
        · refine Classical.byContradiction fun n => ?_
          obtain ⟨oj, hoj, hwj, hcj⟩ := hj
          have hji : j ≠ i := fun q => hi (q ▸ hl)
          obtain ⟨pj, hpj, _⟩ := S.step j oj hoj
          have hbb := S.facts.clash j i oj o pj hoj ho (by omega) hpj (.inr (.inr ⟨hc, hcj⟩))
          exact hi (S.preds I.closed j oj pj hoj hpj (I.closed j oj hl hoj) i hbb)
        · omega
      · intro j hj hl
        refine Classical.byContradiction fun n => ?_
        have hji : j ≠ i := fun q => hl (.inr q)
        obtain ⟨oj, hoj, hwj, hcj⟩ := hj
        have hbb := S.facts.clash i j o oj p ho hoj (by omega) hp (.inr (.inr ⟨hcj, hc⟩))
        exact hl (.inl (S.preds I.closed i o p ho hp he j hbb))
      · intro i' b q n
        rw [q3.old b (hnext i' b q)]
        exact hvne i' b q n
    · have hobs := hf2 hc
      have hn : ¬ WH E ops T i := by
        rintro ⟨o', ho', _, hc'⟩
        rw [ho] at ho'; cases ho'
        exact hc hc'
      have hobs' : Bool.rec (motive := fun _ => Option Value) ((findX i al).bind fun b => zeroRow E (T.Gt k) b o.op) ((opR o.op E (T.Gt k) (ev (T.Bt i))).bind valOf) (Nat.beq (cls E o.op) 0) = some (T.val i) := hobs
      rw [natBeq_eq] at hobs'
      by_cases hc0 : cls E o.op = 0
      · simp only [hc0, decide_true] at hobs'
        obtain ⟨r, hop, hv⟩ := bind_some hobs'
        have hr : r = .val (T.val i) (T.Gt k) := by
          cases r with
          | val v h' =>
            have hh := light_heap hc0 hop
            cases hv; rw [hh]
          | enter f args => cases hv
          | round l args => cases hv
        refine oper_sound2 hE hops hH hop (.inl hr) ?_
        intro ρ' V w' q1 q2 q3
        refine hK _ _ (S.after I ht q3.le ho hp hi he q1 (keep hn ρ' w' q2 (hX.trans q3)) ?_)
        intro i' b q n
        rw [q3.old b (hnext i' b q)]
        exact hvne i' b q n
      · simp only [hc0, decide_false] at hobs'
        obtain ⟨b, hfb, hz⟩ := bind_some hobs'
        cases hoo : o.op with
        | alloc e =>
          rw [hoo] at hz
          obtain ⟨z, hzc, hz2⟩ := bind_some hz
          obtain ⟨x, hx, hz3⟩ := bind_some hz2
          obtain ⟨hcond, hz4⟩ := rec_some hz3
          simp only [natBeq_eq, Bool.and_eq_true, Bool.not_eq_true', decide_eq_true_eq] at hcond
          obtain ⟨⟨⟨⟨c1, c2⟩, c3⟩, c4⟩, c5⟩ := hcond
          have hcs := veqL_eq _ _ c1
          obtain ⟨Z, hZ, _, hrel⟩ := hE.zcells hzc w
          have hρb := hvirt i b hfb hi
          have hW : (w.alloc (.cells Z.cells e (0, 0))).heap = w.heap.push (.cells Z.cells x.elem (0, 0)) := by rw [c2]; rfl
          obtain ⟨q2, q3⟩ := HRel.real hH (W' := w.alloc (.cells Z.cells e (0, 0))) (H.row_get hx) hρb hW c3 (by rw [hcs]; exact hrel ρ)
          have q3' := q3 ρ0 h0 W0 (by have := (S.laid.range i b hfb).1; omega) hX rfl rfl rfl
          have hrun : (execOp a.eval o).run P w = .ok (.value (.pointer (some ⟨w.heap.size, 0, none⟩))) (w.alloc (.cells Z.cells e (0, 0))) := by
            simp only [execOp, hoo, Instr.alloc, newVar, Sem.run_bind, hZ, Result.andThen_ok, run_newRow, Sem.run_pure]
            rfl
          unfold Oper.wp
          rw [hrun]
          have hle := ρ.add_le b ⟨w.heap.size, 0, x.cs.length, 0, Z.cells.size⟩ hρb
          refine hK _ _ (S.after I ht hle ho hp hi he ?_ (keep hn _ _ q2 q3') ?_)
          · have : T.val i = .pointer (some ⟨b, 0, none⟩) := (Option.some.inj hz4).symm
            rw [this]
            exact VRel.ptr b 0 _ (Rho.add_same _ _ _)
          · intro i' b' q n
            have hbb : b' ≠ b := fun qq => n (.inr (S.laid.inj i' i b (qq ▸ q) hfb))
            have : (ρ.add b ⟨w.heap.size, 0, x.cs.length, 0, Z.cells.size⟩) b' = ρ b' := if_neg hbb
            rw [this]
            exact hvne i' b' q n
        | _ => rw [hoo] at hz; cases hz

omit S in
theorem Inv.congr (I : Inv E ops al T N ρ0 h0 W0 D lst a w) {lst' : Nat → Prop} (h : ∀ x, lst x ↔ lst' x) : Inv E ops al T N ρ0 h0 W0 D lst' a w := by
  have : lst = lst' := funext fun x => propext (h x)
  rw [← this]; exact I
/-- whatever the schedule -/
theorem Sched.any (hE : EnvOk P E) (hbase : h0.next ≤ base) {Q : Exit → Act → World → Prop} (hQ : ∀ a w, Inv E ops al T N ρ0 h0 W0 D (fun x => x < ops.size) a w → Q .normal a w) :
    ∀ (fuel : Nat) (L : Array Bool) (a : Act) (w : World), L.size = ops.size → (L.toList.filter (! ·)).length ≤ fuel → Inv E ops al T N ρ0 h0 W0 D (fun x => L.getD x false = true) a w → wpAny P .any ops Q fuel L a w := by
  intro fuel
  -- nothing is ready: all is behind us
  have hdone : ∀ (L : Array Bool) (a : Act) (w : World), L.size = ops.size → Region.ready .any ops L = [] → Inv E ops al T N ρ0 h0 W0 D (fun x => L.getD x false = true) a w → Q .normal a w := by
    intro L a w hs hr I
    have hall : ∀ x, x < ops.size → L.getD x false = true := by
      intro x
      induction x using Nat.strongRecOn with
      | _ x ih =>
        intro hx
        refine Classical.byContradiction fun n => ?_
        have ho := Array.getElem?_eq_getElem (xs := ops) (i := x) hx
        have : x ∈ Region.ready .any ops L := by
          rw [mem_ready]
          refine ⟨?_, ops[x], ho, fun e he hb => ?_⟩
          · have hx' : x < L.size := by omega
            simp [hx'] at n ⊢
            exact n
          · have hlt := S.facts.edge x _ ho e (Array.mem_toList_iff.2 he) hb
            exact ih e.on hlt (by omega)
        rw [hr] at this; cases this
    refine hQ a w (I.congr fun x => ⟨fun q => ?_, hall x⟩)
    rcases Nat.lt_or_ge x L.size with g | g
    · omega
    · simp [Array.getD_eq_getD_getElem?, Array.getElem?_eq_none g] at q
  induction fuel with
  | zero =>
    intro L a w hs hc I
    have hr : Region.ready .any ops L = [] := by
      apply List.eq_nil_iff_forall_not_mem.2
      intro x hx
      obtain ⟨h1, o, ho, _⟩ := mem_ready.1 hx
      have hlt : x < L.size := by rw [hs]; exact S.has ho
      have h1' : L[x] = false := by simpa [hlt] using h1
      have : L[x] ∈ L.toList.filter (! ·) := List.mem_filter.2 ⟨Array.mem_toList_iff.2 (Array.getElem_mem hlt), by rw [h1']; rfl⟩
      have h0 : L.toList.filter (! ·) = [] := List.eq_nil_of_length_eq_zero (by omega)
      rw [h0] at this; cases this
    exact ⟨hr, hdone L a w hs hr I⟩
  | succ fuel ih =>
    intro L a w hs hc I
    refine ⟨fun hr => hdone L a w hs hr I, fun i hir => ?_⟩
    obtain ⟨h1, o, ho, hall⟩ := mem_ready.1 hir
    have hlt : i < L.size := by rw [hs]; exact S.has ho
    have h1' : L[i] = false := by simpa [hlt] using h1
    refine S.one hE hbase I ho ?_ (fun e he hb => hall e (Array.mem_toList_iff.1 he) hb) fun a' w' I' => ?_
    · simp [hlt, h1']
    · refine ih _ a' w' (by simpa using hs) ?_ (I'.congr fun x => ?_)
      · have key : ∀ (l : List Bool) (i : Nat), l[i]? = some false → ((l.set i true).filter (! ·)).length + 1 = (l.filter (! ·)).length := by
          intro l
          induction l with
          | nil => intro i h; simp at h
          | cons b l ihl =>
            intro i h
            cases i with
            | zero => simp at h; subst h; simp
            | succ i =>
              have := ihl i (by simpa using h)
              cases b <;> simp <;> simpa using this
        have hk := key L.toList i (by rw [Array.getElem?_toList, Array.getElem?_eq_getElem hlt, h1'])
        have e : (L.setIfInBounds i true).toList = L.toList.set i true := by simp
        rw [e]; omega
      · by_cases q : x = i
        · subst q; simp [hlt]
        · rw [getD_set_ne false (Ne.symm q)]
          exact ⟨fun r => r.resolve_right q, .inl⟩
end
end Go.X
