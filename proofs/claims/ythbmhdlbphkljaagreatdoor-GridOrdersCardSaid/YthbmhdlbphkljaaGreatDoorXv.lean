/- A part of the evaluator of the model, and of the proof that what it answers is what a call comes to. No conditions of its own. -/
import Derived.Test.YthbmhdlbphkljaaGreatDoorXu
import Derived.Orders
namespace Go.X
open Go
variable {P : Program} {E : Env}

theorem tmpsOf_mem {t : Nat} (l : List Operand) (h : Operand.tmp t ∈ l) : t ∈ tmpsOf l := by
  induction l with
  | nil => cases h
  | cons x l ih =>
    cases h with
    | head => exact .head _
    | tail _ hm =>
      have := ih hm
      cases x with
      | tmp u => exact .tail _ this
      | _ => exact this
theorem optL_mem {d : Nat} {o : Option Nat} {l : List Nat} : d ∈ optL o l ↔ o = some d ∨ d ∈ l := by
  cases o with
  | none => simp [optL]
  | some e =>
    show d ∈ e :: l ↔ _
    simp only [List.mem_cons, Option.some.injEq]
    constructor
    · rintro (h | h); exact .inl h.symm; exact .inr h
    · rintro (h | h); exact .inl h.symm; exact .inr h

/-- what the schedule leans on -/
structure Sched (P : Program) (E : Env) (ops : Array Oper) (ps : List Nat) (al : List (Nat × Nat)) (T : Tr) (N : Nat) (base : Nat) : Prop where
  facts : DrawFacts E ops ps
  laid : Laid base (T.Gt 0).next ops.size al
  sz : Sz (T.Bt 0) N
  step : ∀ (k : Nat) (o : Oper), ops[k]? = some o → ∃ p, ps[k]? = some p ∧ StepOk P E ops al T k o ∧
      (T.wanted ops k o true → cls E o.op ≠ 2 → ∀ (j : Nat) (oj : Oper), j < k → ops[j]? = some oj → T.wanted ops j oj true → cls E oj.op = 2 → bit p j = false → obs E al k o (T.Bt k) (T.Gt j) = some (T.val k)) ∧
      (T.wanted ops k o true → cls E o.op = 2 → ∀ (j : Nat) (oj : Oper), j < k → ops[j]? = some oj → T.wanted ops j oj true → cls E oj.op ≠ 2 → bit p j = false → obs E al j oj (T.Bt j) (T.Gt (k + 1)) = some (T.val j))
def WH (E : Env) (ops : Array Oper) (T : Tr) (k : Nat) : Prop := ∃ o, ops[k]? = some o ∧ T.wanted ops k o true ∧ cls E o.op = 2
section sched
variable {ops : Array Oper} {ps : List Nat} {al : List (Nat × Nat)} {T : Tr} {N base : Nat} (S : Sched P E ops ps al T N base)
include S
theorem Sched.szB : ∀ k, k ≤ ops.size → Sz (T.Bt k) N := by
  intro k
  induction k with
  | zero => intro _; exact S.sz
  | succ k ih =>
    intro hk
    obtain ⟨p, _, ⟨hb, _⟩, _⟩ := S.step k ops[k] (Array.getElem?_eq_getElem hk)
    rw [hb]
    have := ih (by omega)
    cases ops[k].dst with
    | none => exact this
    | some d => exact this.set d _
theorem Sched.gconst {x : Nat} : ∀ y, x ≤ y → y ≤ ops.size → (∀ j, x ≤ j → j < y → ¬ WH E ops T j) → T.Gt y = T.Gt x := by
  intro y
  induction y with
  | zero => intro h _ _; have : x = 0 := by omega
            rw [this]
  | succ y ih =>
    intro hx hy hn
    by_cases e : x = y + 1
    · rw [e]
    · rw [← ih (by omega) (by omega) (fun j h1 h2 => hn j h1 (by omega))]
      have ho := Array.getElem?_eq_getElem (xs := ops) (i := y) hy
      obtain ⟨p, _, ⟨_, g, hw, h0, h1⟩, _⟩ := S.step y _ ho
      cases g with
      | false => exact (h0 rfl).2
      | true =>
        by_cases hc : cls E ops[y].op = 2
        · exact absurd ⟨_, ho, hw, hc⟩ (hn y (by omega) (by omega))
        · exact (h1 rfl hc).2
theorem Sched.bconst {t x : Nat} : ∀ y, x ≤ y → y ≤ ops.size → (∀ j o, x ≤ j → j < y → ops[j]? = some o → o.dst ≠ some t) → (T.Bt y).get t = (T.Bt x).get t := by
  intro y
  induction y with
  | zero => intro h _ _; have : x = 0 := by omega
            rw [this]
  | succ y ih =>
    intro hx hy hn
    by_cases e : x = y + 1
    · rw [e]
    · rw [← ih (by omega) (by omega) (fun j o h1 h2 => hn j o h1 (by omega))]
      have ho := Array.getElem?_eq_getElem (xs := ops) (i := y) hy
      obtain ⟨p, _, ⟨hb, _⟩, _⟩ := S.step y _ ho
      rw [hb]
      have hne := hn y _ (by omega) (by omega) ho
      cases hd : ops[y].dst with
      | none => rfl
      | some d =>
        show ((T.Bt y).set d _).get t = _
        rw [(S.szB y (by omega)).get_set, if_neg (fun q => hne (by rw [hd, q.1]))]
/-- what is listed holds all that it waits for -/
theorem Sched.preds {lst : Nat → Prop} (hcl : ∀ (i : Nat) (o : Oper), lst i → ops[i]? = some o → ∀ e ∈ o.after.toList, Region.binds .any e = true → lst e.on) :
    ∀ (i : Nat) (o : Oper) (p : Nat), ops[i]? = some o → ps[i]? = some p → (∀ e ∈ o.after.toList, Region.binds .any e = true → lst e.on) → ∀ j, bit p j = true → lst j := by
  intro i
  induction i using Nat.strongRecOn with
  | _ i ih =>
    intro o p ho hp he j hj
    obtain ⟨e, hem, hb, q⟩ := S.facts.bits i o p ho hp j hj
    have hon := he e hem hb
    rcases q with q | ⟨q, hq, hbq⟩
    · rw [← q]; exact hon
    · have hlt := S.facts.edge i o ho e hem hb
      have hi : i < ops.size := by
        rcases Nat.lt_or_ge i ops.size with g | g
        · exact g
        · rw [Array.getElem?_eq_none g] at ho; cases ho
      have ho2 := Array.getElem?_eq_getElem (xs := ops) (i := e.on) (by omega)
      exact ih e.on hlt _ q ho2 hq (hcl e.on _ hon ho2) j hbq

end sched
def Closed (ops : Array Oper) (lst : Nat → Prop) : Prop := ∀ (i : Nat) (o : Oper), lst i → ops[i]? = some o → ∀ e ∈ o.after.toList, Region.binds .any e = true → lst e.on
/-- of one way through the region -/
structure TInv (E : Env) (ops : Array Oper) (T : Tr) (ρ : Rho) (k : Nat) (lst : Nat → Prop) (a : Act) : Prop where
  tmps : ∀ t : Nat, ∃ j, j ≤ ops.size ∧ VRel ρ ((T.Bt j).get t) (a.tmps.getD t undef) ∧ (∀ (i : Nat) (o : Oper), ops[i]? = some o → o.dst = some t → lst i → i < j) ∧ (∀ (i : Nat) (o : Oper), ops[i]? = some o → o.dst = some t → ¬ lst i → j ≤ i)
  behind : ∀ j, WH E ops T j → lst j → j < k
  ahead : ∀ j, WH E ops T j → ¬ lst j → k ≤ j
/-- while a schedule runs: 'lst' are the operations behind us -/
structure Inv (E : Env) (ops : Array Oper) (al : List (Nat × Nat)) (mem : Tr → Prop) (N : Nat) (ρ0 : Rho) (h0 : H) (W0 : World) (D : List Deferred) (lst : Nat → Prop) (a : Act) (w : World) : Prop where
  closed : Closed ops lst
  tsize : a.tmps.size = N
  rest : ∃ (ρ : Rho) (k : Nat) (T0 : Tr), mem T0 ∧ k ≤ ops.size ∧ HRel ρ (T0.Gt k) w ∧ Ext ρ0 h0 W0 ρ (T0.Gt k) w ∧ (T0.Gt 0).next ≤ (T0.Gt k).next ∧ (∀ i b : Nat, findX i al = some b → ¬ lst i → ρ b = none) ∧ ∀ T, mem T → agree 0 k T0 T → TInv E ops T ρ k lst a
  defers : a.defers = D

section
variable {ops : Array Oper} {ps : List Nat} {al : List (Nat × Nat)} {T : Tr} {N base : Nat} (S : Sched P E ops ps al T N base)
variable {ρ0 : Rho} {h0 : H} {W0 : World} {D : List Deferred} {lst : Nat → Prop} {a : Act} {w : World}
include S
theorem Sched.has {i : Nat} {o : Oper} (ho : ops[i]? = some o) : i < ops.size := by
  have _ := S.sz
  rcases Nat.lt_or_ge i ops.size with g | g
  · exact g
  · rw [Array.getElem?_eq_none g] at ho; cases ho
/-- what an operation whose turn it is reads -/
theorem Sched.reads (I : Closed ops lst) {ρ : Rho} (ht : ∀ t : Nat, ∃ j, j ≤ ops.size ∧ VRel ρ ((T.Bt j).get t) (a.tmps.getD t undef) ∧ (∀ (i : Nat) (o : Oper), ops[i]? = some o → o.dst = some t → lst i → i < j) ∧ (∀ (i : Nat) (o : Oper), ops[i]? = some o → o.dst = some t → ¬ lst i → j ≤ i))
    {i : Nat} {o : Oper} {p : Nat} (ho : ops[i]? = some o) (hp : ps[i]? = some p) (hi : ¬ lst i) (he : ∀ e ∈ o.after.toList, Region.binds .any e = true → lst e.on) :
    ∀ t ∈ namesOf ops.toList o, VRel ρ ((T.Bt i).get t) (a.tmps.getD t undef) := by
  intro t hmem
  obtain ⟨j, hj, hv, h1, h2⟩ := ht t
  have hpre := S.preds I i o p ho hp he
  have hlt := S.has ho
  have e : (T.Bt i).get t = (T.Bt j).get t := by
    rcases Nat.le_total i j with q | q
    · refine (S.bconst j q hj ?_).symm
      intro x ox hx1 hx2 hox hd
      have hl : lst x := Classical.byContradiction fun n => by have := h2 x ox hox hd n; omega
      have hxi : x ≠ i := fun q => hi (q ▸ hl)
      obtain ⟨px, hpx, _⟩ := S.step x ox hox
      have hb := S.facts.clash x i ox o px hox ho (by omega) hpx (.inr (.inl ⟨t, hd, hmem⟩))
      exact hi (S.preds I x ox px hox hpx (I x ox hl hox) i hb)
    · refine S.bconst i q (by omega) ?_
      intro x ox hx1 hx2 hox hd
      have hl : ¬ lst x := fun n => by have := h1 x ox hox hd n; omega
      have hb := S.facts.clash i x o ox p ho hox hx2 hp (.inl ⟨t, hd, hmem⟩)
      exact hl (hpre x hb)
  rw [e]; exact hv
/-- the heap that an operation whose turn it is finds -/
theorem Sched.finds (I : Closed ops lst) {k : Nat} (hk : k ≤ ops.size) (k1 : ∀ j, WH E ops T j → lst j → j < k) (k2 : ∀ j, WH E ops T j → ¬ lst j → k ≤ j)
    {i : Nat} {o : Oper} {p : Nat} (ho : ops[i]? = some o) (hp : ps[i]? = some p) (hi : ¬ lst i) (he : ∀ e ∈ o.after.toList, Region.binds .any e = true → lst e.on) (hw : T.wanted ops i o true) :
    (cls E o.op = 2 → T.Gt i = T.Gt k ∧ k ≤ i) ∧ (cls E o.op ≠ 2 → obs E al i o (T.Bt i) (T.Gt k) = some (T.val i)) := by
  have hpre := S.preds I i o p ho hp he
  have hlt := S.has ho
  constructor
  · intro hc
    have hki := k2 i ⟨o, ho, hw, hc⟩ hi
    refine ⟨S.gconst i hki (by omega) ?_, hki⟩
    rintro j h1 h2 ⟨oj, hoj, hwj, hcj⟩
    have hb := S.facts.clash i j o oj p ho hoj h2 hp (.inr (.inr ⟨hcj, hc⟩))
    have := k1 j ⟨oj, hoj, hwj, hcj⟩ (hpre j hb)
    omega
  · intro hc
    obtain ⟨p', hp', ⟨_, g, hg, _, h1⟩, hx1, hx2⟩ := S.step i o ho
    rw [hp] at hp'; cases hp'
    have hgt : g = true := by
      have q1 : guardOk ops (T.Bt i) o = some g := hg
      have q2 : guardOk ops (T.Bt i) o = some true := hw
      rw [q1] at q2; cases q2; rfl
    obtain ⟨hobs, _⟩ := h1 hgt hc
    by_cases hex : ∃ j, k ≤ j ∧ j < i ∧ WH E ops T j
    · -- the first heavy one ahead that is not behind us
      have : ∃ j, (k ≤ j ∧ j < i ∧ WH E ops T j) ∧ ∀ m, m < j → ¬ (k ≤ m ∧ m < i ∧ WH E ops T m) := by
        obtain ⟨j, hj⟩ := hex
        induction j using Nat.strongRecOn with
        | _ j ih =>
          by_cases q : ∃ m, m < j ∧ (k ≤ m ∧ m < i ∧ WH E ops T m)
          · obtain ⟨m, hm, hmm⟩ := q; exact ih m hm hmm
          · exact ⟨j, hj, fun m hm hmm => q ⟨m, hm, hmm⟩⟩
      obtain ⟨j, ⟨j1, j2, oj, hoj, hwj, hcj⟩, hmin⟩ := this
      have hnl : ¬ lst j := fun hl => by have := k1 j ⟨oj, hoj, hwj, hcj⟩ hl; omega
      have hb : bit p j = false := by
        cases q : bit p j with
        | false => rfl
        | true => exact absurd (hpre j q) hnl
      have hg' := S.gconst j j1 (by omega) fun m m1 m2 hm => hmin m m2 ⟨m1, by omega, hm⟩
      rw [← hg']
      exact hx1 hw hc j oj j2 hoj hwj hcj hb
    · by_cases hex2 : ∃ j, i ≤ j ∧ j < k ∧ WH E ops T j
      · have : ∃ j, (i ≤ j ∧ j < k ∧ WH E ops T j) ∧ ∀ m, j < m → m < k → ¬ WH E ops T m := by
          have gen : ∀ d j, k - j = d → (i ≤ j ∧ j < k ∧ WH E ops T j) → ∃ j, (i ≤ j ∧ j < k ∧ WH E ops T j) ∧ ∀ m, j < m → m < k → ¬ WH E ops T m := by
            intro d
            induction d using Nat.strongRecOn with
            | _ d ih =>
              intro j hd hj
              by_cases q : ∃ m, j < m ∧ m < k ∧ WH E ops T m
              · obtain ⟨m, m1, m2, m3⟩ := q
                exact ih (k - m) (by omega) m rfl ⟨by omega, m2, m3⟩
              · exact ⟨j, hj, fun m m1 m2 m3 => q ⟨m, m1, m2, m3⟩⟩
          obtain ⟨j, hj⟩ := hex2
          exact gen _ j rfl hj
        obtain ⟨j, ⟨j1, j2, oj, hoj, hwj, hcj⟩, hmax⟩ := this
        have hl : lst j := Classical.byContradiction fun n => by have := k2 j ⟨oj, hoj, hwj, hcj⟩ n; omega
        have hji : j ≠ i := fun q => hi (q ▸ hl)
        obtain ⟨pj, hpj, _, _, hx2j⟩ := S.step j oj hoj
        have hb : bit pj i = false := by
          cases q : bit pj i with
          | false => rfl
          | true => exact absurd (S.preds I j oj pj hoj hpj (I j oj hl hoj) i q) hi
        have hg' := S.gconst (x := j + 1) k (by omega) hk fun m m1 m2 hm => hmax m (by omega) m2 hm
        rw [hg']
        exact hx2j hwj hcj i o (by omega) ho hw hc hb
      · rcases Nat.le_total i k with q | q
        · rw [S.gconst k q hk fun m m1 m2 hm => hex2 ⟨m, m1, m2, hm⟩]; exact hobs
        · rw [← S.gconst i q (by omega) fun m m1 m2 hm => hex ⟨m, m1, m2, hm⟩]; exact hobs

omit S in
theorem put_get {ρ : Rho} {b : B} {a : Act} {N t : Nat} (hb : Sz b N) (hN : a.tmps.size = N) {v V : Value} (hv : VRel ρ v V) : VRel ρ ((putT b (some t) v).get t) ((a.put (some t) V).tmps.getD t undef) := by
  show VRel ρ ((b.set t v).get t) ((a.tmps.setIfInBounds t V).getD t undef)
  rw [hb.get_set]
  by_cases q : t < N
  · rw [if_pos ⟨rfl, q⟩]
    have : (a.tmps.setIfInBounds t V).getD t undef = V := by simp [hN, q]
    rw [this]; exact hv
  · rw [if_neg (fun h => q h.2), hb.get_out t (by omega)]
    have : (a.tmps.setIfInBounds t V).getD t undef = undef := by simp [hN, q]
    rw [this]; exact VRel.undef ρ
theorem Sched.after (I : Closed ops lst) (hsz : a.tmps.size = N) {ρ ρ' : Rho} {k k' : Nat} (hti : TInv E ops T ρ k lst a)
    (hle : ρ.le ρ') {i : Nat} {o : Oper} {p : Nat} (ho : ops[i]? = some o) (hp : ps[i]? = some p) (hi : ¬ lst i) (he : ∀ e ∈ o.after.toList, Region.binds .any e = true → lst e.on) {V : Value} (hv : VRel ρ' (T.val i) V)
    (h1 : ∀ j, WH E ops T j → (lst j ∨ j = i) → j < k') (h2 : ∀ j, WH E ops T j → ¬ (lst j ∨ j = i) → k' ≤ j) : TInv E ops T ρ' k' (fun x => lst x ∨ x = i) (a.put o.dst V) := by
  have hpre := S.preds I i o p ho hp he
  have hlt := S.has ho
  obtain ⟨p', hp', ⟨hb, _⟩, _⟩ := S.step i o ho
  refine ⟨?_, h1, h2⟩
  · intro t
    by_cases hd : o.dst = some t
    · refine ⟨i + 1, by omega, ?_, ?_, ?_⟩
      · rw [hb, hd]; exact put_get (S.szB i (by omega)) hsz hv
      · intro x ox hox hdx hx
        rcases hx with hx | hx
        · refine Classical.byContradiction fun n => ?_
          have hxi : x ≠ i := fun q => hi (q ▸ hx)
          obtain ⟨px, hpx, _⟩ := S.step x ox hox
          have hbb := S.facts.clash x i ox o px hox ho (by omega) hpx (.inl ⟨t, hd, by unfold namesOf; rw [optL_mem]; exact .inl hdx⟩)
          exact hi (S.preds I x ox px hox hpx (I x ox hx hox) i hbb)
        · omega
      · intro x ox hox hdx hx
        refine Classical.byContradiction fun n => ?_
        have hxi : x ≠ i := fun q => hx (.inr q)
        have hbb := S.facts.clash i x o ox p ho hox (by omega) hp (.inl ⟨t, hdx, by unfold namesOf; rw [optL_mem]; exact .inl hd⟩)
        exact hx (.inl (hpre x hbb))
    · obtain ⟨j, hj, hjv, h1, h2⟩ := hti.tmps t
      refine ⟨j, hj, ?_, ?_, ?_⟩
      · have : (a.put o.dst V).tmps.getD t undef = a.tmps.getD t undef := by
          cases hq : o.dst with
          | none => rfl
          | some d =>
            have hne : d ≠ t := fun q => hd (by rw [hq, q])
            show (a.tmps.setIfInBounds d V).getD t undef = _
            simp [Array.getElem?_setIfInBounds_ne hne]
        rw [this]; exact hjv.mono hle
      · intro x ox hox hdx hx
        rcases hx with hx | hx
        · exact h1 x ox hox hdx hx
        · subst hx; rw [ho] at hox; cases hox; exact absurd hdx hd
      · intro x ox hox hdx hx
        exact h2 x ox hox hdx fun q => hx (.inl q)
/-- where an operation is not heavy the heap's place stays -/
theorem Sched.still {ρ : Rho} {k : Nat} (hti : TInv E ops T ρ k lst a) {i : Nat} (hn : ¬ WH E ops T i) : (∀ j, WH E ops T j → (lst j ∨ j = i) → j < k) ∧ ∀ j, WH E ops T j → ¬ (lst j ∨ j = i) → k ≤ j := by
  have _ := S.sz
  refine ⟨?_, fun j hj n => hti.ahead j hj fun r => n (.inl r)⟩
  intro j hj hl
  rcases hl with hl | hl
  · exact hti.behind j hj hl
  · exact absurd (hl ▸ hj) hn
omit S in
/-- a row laid ahead comes to be -/
theorem HRel.real {ρ : Rho} {h : H} {W W' : World} (hH : HRel ρ h W) {b : Nat} {x : Blk} {C : Array Value} (hx : h.get b = some (.row x)) (hr : ρ b = none) (hW : W'.heap = W.heap.push (.cells C x.elem (0, 0))) (hosz : x.osz = 0) (hC : VRels ρ x.cs C.toList) :
    HRel (ρ.add b ⟨W.heap.size, 0, x.cs.length, 0, C.size⟩) h W' ∧ ∀ (ρ0 : Rho) (h0 : H) (W0 : World), h0.next ≤ b → Ext ρ0 h0 W0 ρ h W → W'.os = W.os → W'.tape = W.tape → W'.output = W.output → Ext ρ0 h0 W0 (ρ.add b ⟨W.heap.size, 0, x.cs.length, 0, C.size⟩) h W' := by
  have hle := ρ.add_le b ⟨W.heap.size, 0, x.cs.length, 0, C.size⟩ hr
  have hold : ∀ k, k < W.heap.size → W'.heap[k]? = W.heap[k]? := fun k hk => by rw [hW, Array.getElem?_push, if_neg (by omega)]
  have hs : W'.heap.size = W.heap.size + 1 := by rw [hW]; simp
  have hne : ∀ c, c ≠ b → (ρ.add b ⟨W.heap.size, 0, x.cs.length, 0, C.size⟩) c = ρ c := fun c q => if_neg q
  obtain ⟨hc1, hc2⟩ := rels_get hC
  refine ⟨⟨?_, ?_, ?_, hH.fresh⟩, ?_⟩
  · intro c y r e1 e2
    by_cases q : c = b
    · subst q
      rw [hx] at e1; cases e1
      rw [Rho.add_same] at e2; cases e2
      refine ⟨C, (0, 0), by rw [hW]; simp, rfl, rfl, ⟨hosz.symm, fun _ => rfl⟩, by simpa using hc1, ?_, fun _ j _ _ q => absurd q.2 (Nat.not_lt_zero _)⟩
      intro i v e
      obtain ⟨V, hV, hv⟩ := hc2 i v e
      exact ⟨V, by simpa using hV, hv.mono hle⟩
    · rw [hne c q] at e2
      exact (hH.obj c y r e1 e2).mono hle (hold _ (hH.dom _ _ e2).2)
  · intro c c' y y' r r' e1 e1' e2 e2' hcc hro
    by_cases q : c = b
    · subst q
      rw [Rho.add_same] at e2; cases e2
      rw [hne c' (fun q => hcc q.symm)] at e2'
      have := (hH.dom _ _ e2').2
      show W.heap.size ≠ r'.blk
      omega
    · rw [hne c q] at e2
      by_cases q' : c' = b
      · subst q'
        rw [Rho.add_same] at e2'; cases e2'
        have := (hH.dom _ _ e2).2
        show r.blk ≠ W.heap.size
        omega
      · rw [hne c' q'] at e2'
        exact hH.inj c c' y y' r r' e1 e1' e2 e2' hcc hro
  · intro c r e
    by_cases q : c = b
    · subst q
      rw [Rho.add_same] at e; cases e
      refine ⟨?_, by rw [hs]; exact Nat.lt_succ_self _⟩
      refine Classical.byContradiction fun n => ?_
      have := hH.fresh c (by omega)
      rw [hx] at this; cases this
    · rw [hne c q] at e
      have := hH.dom c r e
      rw [hs]; omega
  · intro ρ0 h0 W0 hb X e1 e2 e3
    refine ⟨Rho.le_trans X.le hle, by have := X.size; omega, e1.trans X.os, e2.trans X.tape, e3.trans X.output, ?_, ?_, X.next, ?_⟩
    · intro B hB hn
      rw [hold B (by have := X.size; omega)]
      exact X.kept B hB hn
    · intro c y r k1 k2 k3 k4
      by_cases q : c = b
      · subst q
        rw [Rho.add_same] at k3; cases k3
        have := X.size
        have k4' : W.heap.size < W0.heap.size := k4
        omega
      · rw [hne c q] at k3; exact X.own c y r k1 k2 k3 k4
    · intro c hc
      rw [hne c (by omega)]; exact X.old c hc

end
/-- nothing new came to be: the places are as they were -/
theorem same_rho {ρ ρ' : Rho} {h : H} {W W' : World} (h1 : HRel ρ h W) (h2 : HRel ρ' h W') (hX : Ext ρ h W ρ' h W') : ρ' = ρ := by
  funext b
  rcases Nat.lt_or_ge b h.next with g | g
  · exact hX.old b g
  · have n1 : ρ b = none := by
      cases q : ρ b with
      | none => rfl
      | some r => have := (h1.dom b r q).1; omega
    have n2 : ρ' b = none := by
      cases q : ρ' b with
      | none => rfl
      | some r => have := (h2.dom b r q).1; omega
    rw [n1, n2]
theorem agree.refl (i k : Nat) (T : Tr) : agree i k T T := ⟨fun _ _ _ => ⟨rfl, rfl⟩, fun _ _ _ => rfl⟩
theorem agree.trans {i k : Nat} {T T' T'' : Tr} (x : agree i k T T') (y : agree i k T' T'') : agree i k T T'' :=
  ⟨fun j a b => ⟨(y.1 j a b).1.trans (x.1 j a b).1, (y.1 j a b).2.trans (x.1 j a b).2⟩, fun j a b => (y.2 j a b).trans (x.2 j a b)⟩
theorem agree.le {i k k' : Nat} {T T' : Tr} (x : agree i k T T') (h : k' ≤ k) : agree i k' T T' :=
  ⟨fun j a b => x.1 j a (Nat.le_trans b h), fun j a b => x.2 j a (Nat.lt_of_lt_of_le b h)⟩
/-- all ways through a region -/
structure Fam (P : Program) (E : Env) (ops : Array Oper) (ps : List Nat) (al : List (Nat × Nat)) (mem : Tr → Prop) (N base : Nat) : Prop where
  sched : ∀ T, mem T → Sched P E ops ps al T N base
  heavy : ∀ T, mem T → ∀ k o, ops[k]? = some o → T.wanted ops k o true → cls E o.op = 2 → OperW P o (T.Bt k) (T.Gt k) fun v h' => ∃ T', mem T' ∧ agree 0 k T T' ∧ T'.val k = v ∧ T'.Gt (k + 1) = h'
section
variable {ops : Array Oper} {ps : List Nat} {al : List (Nat × Nat)} {mem : Tr → Prop} {N base : Nat} (F : Fam P E ops ps al mem N base)
variable {ρ0 : Rho} {h0 : H} {W0 : World} {D : List Deferred} {lst : Nat → Prop} {a : Act} {w : World}
include F
/-- one operation, whose turn it is -/
theorem Fam.one (hE : EnvOk P E) (hbase : h0.next ≤ base) (I : Inv E ops al mem N ρ0 h0 W0 D lst a w) {i : Nat} {o : Oper} (ho : ops[i]? = some o) (hi : ¬ lst i) (he : ∀ e ∈ o.after.toList, Region.binds .any e = true → lst e.on)
    {rr : Option Nat} {Q : Exit → Act → World → Prop} {K : Act → World → Prop} (hK : ∀ a' w', Inv E ops al mem N ρ0 h0 W0 D (fun x => lst x ∨ x = i) a' w' → K a' w') : wpOpIn (FW rr) 0 P ops Q i K a w := by
  obtain ⟨ρ, k, T0, hm0, hk, hH, hX, hnx, hvirt, hall⟩ := I.rest
  have S := F.sched T0 hm0
  obtain ⟨p, hp, ⟨hb, g, hg, hg0, hg1⟩, _⟩ := S.step i o ho
  have ht0 := hall T0 hm0 (agree.refl _ _ _)
  have hrd : ∀ T, mem T → agree 0 k T0 T → ∀ t ∈ namesOf ops.toList o, VRel ρ ((T.Bt i).get t) (a.tmps.getD t undef) := fun T hm ha => (F.sched T hm).reads I.closed (hall T hm ha).tmps ho hp hi he
  have hwantT : ∀ T, mem T → agree 0 k T0 T → ∀ g', guardOk ops (T.Bt i) o = some g' → Region.wanted o (yielded ops a.tmps) = g' := fun T hm ha g' hg' =>
    guardOk_rel2 (ρ := ρ) (t := T.Bt i) (a := a) ops o (fun d hd => hrd T hm ha d (by unfold namesOf; rw [optL_mem, optL_mem]; exact .inr (.inl hd))) hg'
  have hwant := hwantT T0 hm0 (agree.refl _ _ _) g hg
  have hgT : ∀ T, mem T → agree 0 k T0 T → guardOk ops (T.Bt i) o = some g := by
    intro T hm ha
    obtain ⟨_, _, ⟨_, g', hg', _, _⟩, _⟩ := (F.sched T hm).step i o ho
    have := hwantT T hm ha g' hg'
    rw [hwant] at this; rw [this]; exact hg'
  have hops : ∀ T, mem T → agree 0 k T0 T → ∀ x ∈ o.op.operands.toList, VRel ρ (ev (T.Bt i) x) (a.eval x) := by
    intro T hm ha x hx
    cases x with
    | tmp t => exact hrd T hm ha t (by unfold namesOf; rw [optL_mem, optL_mem]; exact .inr (.inr (tmpsOf_mem _ hx)))
    | const v => exact constV_rel v ρ
    | global q => exact .unk _
    | func f => exact .func _ _ _ _ _ _ (.func f) .nil .nil
  have hvne : ∀ i' b : Nat, findX i' al = some b → ¬ (lst i' ∨ i' = i) → ρ b = none := fun i' b q n => hvirt i' b q fun r => n (.inl r)
  have hclo : Closed ops (fun x => lst x ∨ x = i) := by
    intro x ox hx hox e hem hbd
    rcases hx with hx | hx
    · exact .inl (I.closed x ox hx hox e hem hbd)
    · subst hx; rw [ho] at hox; cases hox; exact .inl (he e hem hbd)
  have hsz : ∀ V, (a.put o.dst V).tmps.size = N := by
    intro V
    cases o.dst with
    | none => exact I.tsize
    | some d => show (a.tmps.setIfInBounds d V).size = N; simp [I.tsize]
  have hdef : ∀ V, (a.put o.dst V).defers = D := by
    intro V
    cases o.dst with
    | none => exact I.defers
    | some d => exact I.defers
  have hnT : ∀ T, mem T → agree 0 k T0 T → (g = false ∨ cls E o.op ≠ 2) → ¬ WH E ops T i := by
    rintro T hm ha hq ⟨o', ho', hw', hc'⟩
    rw [ho] at ho'; cases ho'
    rcases hq with hq | hq
    · have q1 := hgT T hm ha
      have q2 : guardOk ops (T.Bt i) o = some true := hw'
      rw [q1, hq] at q2; cases q2
    · exact hq hc'
  -- behind one that is not heavy
  have light : (g = false ∨ cls E o.op ≠ 2) → ∀ (ρ' : Rho) (V : Value) (w' : World), ρ.le ρ' → HRel ρ' (T0.Gt k) w' → Ext ρ0 h0 W0 ρ' (T0.Gt k) w' → (∀ i' b : Nat, findX i' al = some b → ¬ (lst i' ∨ i' = i) → ρ' b = none) → (∀ T, mem T → agree 0 k T0 T → VRel ρ' (T.val i) V) → K (a.put o.dst V) w' := by
    intro hq ρ' V w' hle q1 q2 q3 q4
    refine hK _ _ ⟨hclo, hsz V, ⟨ρ', k, T0, hm0, hk, q1, q2, hnx, q3, fun T hm ha => ?_⟩, hdef V⟩
    obtain ⟨s1, s2⟩ := (F.sched T hm).still (hall T hm ha) (hnT T hm ha hq)
    exact (F.sched T hm).after I.closed I.tsize (hall T hm ha) hle ho hp hi he (q4 T hm ha) s1 s2
  unfold Go.wpOpIn
  simp only [ho]
  cases g with
  | false =>
    rw [hwant]
    simp only [Bool.false_eq_true, if_false]
    refine ⟨fun _ _ => trivial, light (.inl rfl) ρ undef w ρ.le_refl hH hX hvne fun T hm ha => ?_⟩
    obtain ⟨_, _, ⟨_, g', hg', hg0', _⟩, _⟩ := (F.sched T hm).step i o ho
    have q1 := hgT T hm ha
    have q2 : guardOk ops (T.Bt i) o = some g' := hg'
    rw [q1] at q2; cases q2
    rw [(hg0' rfl).1]; exact VRel.undef ρ
  | true =>
    rw [hwant]
    simp only [if_true]
    obtain ⟨hf1, _⟩ := S.finds I.closed hk ht0.behind ht0.ahead ho hp hi he hg
    have hnext : ∀ (i' b : Nat), findX i' al = some b → b < (T0.Gt k).next := fun i' b q => by
      have := (S.laid.range i' b q).2.1; omega
    by_cases hc : cls E o.op = 2
    · obtain ⟨hG, hki⟩ := hf1 hc
      have hv := F.heavy T0 hm0 i o ho hg hc
      rw [hG] at hv
      refine hv.2 rr ρ a w K Q (hops T0 hm0 (agree.refl _ _ _)) hH ?_
      rintro v h' ρ' V w' ⟨T', hm', ha', hv', hG'⟩ q1 q2 q3
      have ha0 : agree 0 k T0 T' := ha'.le hki
      refine hK _ _ ⟨hclo, hsz V, ⟨ρ', i + 1, T', hm', S.has ho, by rw [hG']; exact q2, by rw [hG']; exact hX.trans q3, ?_, ?_, ?_⟩, hdef V⟩
      · rw [hG', (ha'.1 0 (Nat.le_refl _) (Nat.zero_le _)).2]
        have := q3.next; omega
      · intro i' b q n
        rw [q3.old b (hnext i' b q)]
        exact hvne i' b q n
      · intro T hm ha
        have haT : agree 0 k T0 T := ha0.trans (ha.le (by omega))
        have ST := F.sched T hm
        refine ST.after I.closed I.tsize (hall T hm haT) q3.le ho hp hi he (by rw [ha.2 i (Nat.zero_le _) (Nat.lt_succ_self _), hv']; exact q1) ?_ ?_
        · intro j hj hl
          rcases hl with hl | hl
          · refine Classical.byContradiction fun n => ?_
            obtain ⟨oj, hoj, hwj, hcj⟩ := hj
            have hji : j ≠ i := fun q => hi (q ▸ hl)
            obtain ⟨pj, hpj, _⟩ := ST.step j oj hoj
            have hbb := ST.facts.clash j i oj o pj hoj ho (by omega) hpj (.inr (.inr ⟨hc, hcj⟩))
            exact hi (ST.preds I.closed j oj pj hoj hpj (I.closed j oj hl hoj) i hbb)
          · omega
        · intro j hj hl
          refine Classical.byContradiction fun n => ?_
          have hji : j ≠ i := fun q => hl (.inr q)
          obtain ⟨oj, hoj, hwj, hcj⟩ := hj
          have hbb := ST.facts.clash i j o oj p ho hoj (by omega) hp (.inr (.inr ⟨hcj, hc⟩))
          exact hl (.inl (ST.preds I.closed i o p ho hp he j hbb))
    · have hobs : ∀ T, mem T → agree 0 k T0 T → obs E al i o (T.Bt i) (T0.Gt k) = some (T.val i) := by
        intro T hm ha
        obtain ⟨_, hf2⟩ := (F.sched T hm).finds I.closed hk (hall T hm ha).behind (hall T hm ha).ahead ho hp hi he (hgT T hm ha)
        have := hf2 hc
        rw [(ha.1 k (Nat.zero_le _) (Nat.le_refl _)).2] at this
        exact this
      by_cases hc0 : cls E o.op = 0
      · have hval : ∀ T, mem T → agree 0 k T0 T → opR o.op E (T0.Gt k) (ev (T.Bt i)) = some (.val (T.val i) (T0.Gt k)) := by
          intro T hm ha
          have hobs' : Bool.rec (motive := fun _ => Option Value) ((findX i al).bind fun b => zeroRow E (T0.Gt k) b o.op) ((opR o.op E (T0.Gt k) (ev (T.Bt i))).bind valOf) (Nat.beq (cls E o.op) 0) = some (T.val i) := hobs T hm ha
          rw [natBeq_eq] at hobs'
          simp only [hc0, decide_true] at hobs'
          obtain ⟨r, hop, hv⟩ := bind_some hobs'
          rw [hop]
          cases r with
          | val v h' =>
            have hh := light_heap hc0 hop
            cases hv; rw [hh]
          | enter f args => cases hv
          | round l args => cases hv
        have hsem : o.semAt (FW rr).round a.eval = execOp a.eval o := Oper.semAt_eq _ _ _ (opR_nodefer (hval T0 hm0 (agree.refl _ _ _)))
        refine ⟨fun _ _ => trivial, ?_⟩
        rw [hsem]
        have hrunT : ∀ T, mem T → agree 0 k T0 T → ∃ ρ' W' V nx, (execOp a.eval o).run P w = .ok nx W' ∧ (nx = .value V ∨ (nx = .skip ∧ V = undef)) ∧ VRel ρ' (T.val i) V ∧ HRel ρ' (T0.Gt k) W' ∧ Ext ρ (T0.Gt k) w ρ' (T0.Gt k) W' := by
          intro T hm ha
          obtain ⟨ρ', W', V, nx, hrun, hnx, k1, k2, k3⟩ := op_sound (P := P) (o := o) hE hH (a := ev (T.Bt i)) (c := a.eval) (hops T hm ha) (hval T hm ha)
          exact ⟨ρ', W', V, nx, hrun, hnx, k1, k2, k3⟩
        obtain ⟨ρ', W', V, nx, hrun, hnx, k1, k2, k3⟩ := hrunT T0 hm0 (agree.refl _ _ _)
        have hρ := same_rho hH k2 k3
        subst hρ
        have fin : ∀ T, mem T → agree 0 k T0 T → VRel ρ' (T.val i) V := by
          intro T hm ha
          obtain ⟨ρ2, W2, V2, nx2, hrun2, hnx2, l1, l2, l3⟩ := hrunT T hm ha
          have hρ2 := same_rho hH l2 l3
          rw [hrun] at hrun2; cases hrun2
          rw [hρ2] at l1
          have : V2 = V := by
            rcases hnx with e | ⟨e, e1⟩ <;> rcases hnx2 with e' | ⟨e', e1'⟩
            · rw [e] at e'; cases e'; rfl
            · rw [e] at e'; cases e'
            · rw [e] at e'; cases e'
            · rw [e1, e1']
          rw [this] at l1; exact l1
        rw [hrun]
        have hkk := light (.inr hc) ρ' V W' ρ'.le_refl k2 (hX.trans k3) hvne fin
        rcases hnx with rfl | ⟨rfl, rfl⟩
        · exact hkk
        · exact hkk
      · have hobs' : ∀ T, mem T → agree 0 k T0 T → ((findX i al).bind fun b => zeroRow E (T0.Gt k) b o.op) = some (T.val i) := by
          intro T hm ha
          have hobs' : Bool.rec (motive := fun _ => Option Value) ((findX i al).bind fun b => zeroRow E (T0.Gt k) b o.op) ((opR o.op E (T0.Gt k) (ev (T.Bt i))).bind valOf) (Nat.beq (cls E o.op) 0) = some (T.val i) := hobs T hm ha
          rw [natBeq_eq] at hobs'
          simp only [hc0, decide_false] at hobs'
          exact hobs'
        obtain ⟨b, hfb, hz⟩ := bind_some (hobs' T0 hm0 (agree.refl _ _ _))
        cases hoo : o.op with
        | alloc e =>
          rw [hoo] at hz
          obtain ⟨z, hzc, hz2⟩ := bind_some hz
          obtain ⟨x, hx, hz3⟩ := bind_some hz2
          obtain ⟨hcond, hz4⟩ := rec_some hz3
          simp only [natBeq_eq, Bool.and_eq_true, Bool.not_eq_true', decide_eq_true_eq] at hcond
          obtain ⟨⟨⟨⟨c1, c2⟩, c3⟩, c4⟩, c5⟩ := hcond
          have hcs := veqL_eq _ _ c1
          obtain ⟨Z, hZ, _, hrel⟩ := hE.zcells hzc w
          have hρb := hvirt i b hfb hi
          have hW : (w.alloc (.cells Z.cells e (0, 0))).heap = w.heap.push (.cells Z.cells x.elem (0, 0)) := by rw [c2]; rfl
          obtain ⟨q2, q3⟩ := HRel.real hH (W' := w.alloc (.cells Z.cells e (0, 0))) (H.row_get hx) hρb hW c3 (by rw [hcs]; exact hrel ρ)
          have q3' := q3 ρ0 h0 W0 (by have := (S.laid.range i b hfb).1; omega) hX rfl rfl rfl
          have hrun : (execOp a.eval o).run P w = .ok (.value (.pointer (some ⟨w.heap.size, 0, none⟩))) (w.alloc (.cells Z.cells e (0, 0))) := by
            simp only [execOp, hoo, Instr.alloc, newVar, Sem.run_bind, hZ, Result.andThen_ok, run_newRow, Sem.run_pure]
            rfl
          refine ⟨fun _ _ => trivial, ?_⟩
          rw [Oper.semAt_eq _ _ _ (fun c q => by rw [hoo] at q; cases q), hrun]
          have hle := ρ.add_le b ⟨w.heap.size, 0, x.cs.length, 0, Z.cells.size⟩ hρb
          refine light (.inr hc) _ _ _ hle q2 q3' ?_ ?_
          · intro i' b' q n
            have hbb : b' ≠ b := fun qq => n (.inr (S.laid.inj i' i b (qq ▸ q) hfb))
            have : (ρ.add b ⟨w.heap.size, 0, x.cs.length, 0, Z.cells.size⟩) b' = ρ b' := if_neg hbb
            rw [this]
            exact hvne i' b' q n
          · intro T hm ha
            have : T0.val i = .pointer (some ⟨b, 0, none⟩) := (Option.some.inj hz4).symm
            have hT : T.val i = .pointer (some ⟨b, 0, none⟩) := by
              have e2 := hobs' T hm ha
              rw [hobs' T0 hm0 (agree.refl _ _ _), this] at e2
              exact (Option.some.inj e2).symm
            rw [hT]
            exact VRel.ptr b 0 _ (Rho.add_same _ _ _)
        | _ => rw [hoo] at hz; cases hz

omit F in
theorem Inv.congr (I : Inv E ops al mem N ρ0 h0 W0 D lst a w) {lst' : Nat → Prop} (h : ∀ x, lst x ↔ lst' x) : Inv E ops al mem N ρ0 h0 W0 D lst' a w := by
  have : lst = lst' := funext fun x => propext (h x)
  rw [← this]; exact I
/-- whatever the schedule -/
theorem Fam.any {rr : Option Nat} (hE : EnvOk P E) (hbase : h0.next ≤ base) {Q : Exit → Act → World → Prop} (hQ : ∀ a w, Inv E ops al mem N ρ0 h0 W0 D (fun x => x < ops.size) a w → Q .normal a w) :
    ∀ (fuel : Nat) (L : Array Bool) (a : Act) (w : World), L.size = ops.size → (L.toList.filter (! ·)).length ≤ fuel → Inv E ops al mem N ρ0 h0 W0 D (fun x => L.getD x false = true) a w → wpAnyIn (FW rr) 0 P .any ops Q fuel L a w := by
  intro fuel L0 a0 w0 hs0 hc0 I0
  obtain ⟨T1, hm1⟩ : ∃ T, mem T := by obtain ⟨_, _, T0, hm0, _⟩ := I0.rest; exact ⟨T0, hm0⟩
  have S := F.sched T1 hm1
  revert L0 a0 w0
  -- nothing is ready: all is behind us
  have hdone : ∀ (L : Array Bool) (a : Act) (w : World), L.size = ops.size → Region.ready .any ops L = [] → Inv E ops al mem N ρ0 h0 W0 D (fun x => L.getD x false = true) a w → Q .normal a w := by
    intro L a w hs hr I
    have hall : ∀ x, x < ops.size → L.getD x false = true := by
      intro x
      induction x using Nat.strongRecOn with
      | _ x ih =>
        intro hx
        refine Classical.byContradiction fun n => ?_
        have ho := Array.getElem?_eq_getElem (xs := ops) (i := x) hx
        have : x ∈ Region.ready .any ops L := by
          rw [mem_ready]
          refine ⟨?_, ops[x], ho, fun e he hb => ?_⟩
          · have hx' : x < L.size := by omega
            simp [hx'] at n ⊢
            exact n
          · have hlt := S.facts.edge x _ ho e (Array.mem_toList_iff.2 he) hb
            exact ih e.on hlt (by omega)
        rw [hr] at this; cases this
    refine hQ a w (I.congr fun x => ⟨fun q => ?_, hall x⟩)
    rcases Nat.lt_or_ge x L.size with g | g
    · omega
    · simp [Array.getD_eq_getD_getElem?, Array.getElem?_eq_none g] at q
  induction fuel with
  | zero =>
    intro L a w hs hc I
    have hr : Region.ready .any ops L = [] := by
      apply List.eq_nil_iff_forall_not_mem.2
      intro x hx
      obtain ⟨h1, o, ho, _⟩ := mem_ready.1 hx
      have hlt : x < L.size := by rw [hs]; exact S.has ho
      have h1' : L[x] = false := by simpa [hlt] using h1
      have : L[x] ∈ L.toList.filter (! ·) := List.mem_filter.2 ⟨Array.mem_toList_iff.2 (Array.getElem_mem hlt), by rw [h1']; rfl⟩
      have h0 : L.toList.filter (! ·) = [] := List.eq_nil_of_length_eq_zero (by omega)
      rw [h0] at this; cases this
    exact ⟨hr, hdone L a w hs hr I⟩
  | succ fuel ih =>
    intro L a w hs hc I
    refine ⟨fun hr => hdone L a w hs hr I, fun i hir => ?_⟩
    obtain ⟨h1, o, ho, hall⟩ := mem_ready.1 hir
    have hlt : i < L.size := by rw [hs]; exact S.has ho
    have h1' : L[i] = false := by simpa [hlt] using h1
    refine F.one hE hbase I ho ?_ (fun e he hb => hall e (Array.mem_toList_iff.1 he) hb) fun a' w' I' => ?_
    · simp [hlt, h1']
    · refine ih _ a' w' (by simpa using hs) ?_ (I'.congr fun x => ?_)
      · have key : ∀ (l : List Bool) (i : Nat), l[i]? = some false → ((l.set i true).filter (! ·)).length + 1 = (l.filter (! ·)).length := by
          intro l
          induction l with
          | nil => intro i h; simp at h
          | cons b l ihl =>
            intro i h
            cases i with
            | zero => simp at h; subst h; simp
            | succ i =>
              have := ihl i (by simpa using h)
              cases b <;> simp <;> simpa using this
        have hk := key L.toList i (by rw [Array.getElem?_toList, Array.getElem?_eq_getElem hlt, h1'])
        have e : (L.setIfInBounds i true).toList = L.toList.set i true := by simp
        rw [e]; omega
      · by_cases q : x = i
        · subst q; simp [hlt]
        · rw [getD_set_ne false (Ne.symm q)]
          exact ⟨fun r => r.resolve_right q, .inl⟩
end
end Go.X
