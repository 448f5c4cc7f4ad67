/-
  Evaluation of calls, part 2: a region, whatever order its operations come up in. No program in sight.
-/
import Derived.Test.YtelnnjofccldgaaGreatDoorEvV
namespace Go.Ev
open Go

/-- what has become of a call's world since it began: dirty: the elder blocks that were written -/
structure Fr (m0 : Nat) (dirty : Nat → Prop) (ι0 : Img) (w0 : World) (ι : Img) (w : World) : Prop where
  ext : Ext1 ι0 ι
  size : w0.heap.size ≤ w.heap.size
  frame : ∀ k, k < w0.heap.size → (∀ b c, dirty b → ι0 b ≠ some (k, c)) → w.heap[k]? = w0.heap[k]?
  img : ∀ b k c, ι0 b = none → ι b = some (k, c) → w0.heap.size ≤ k ∨ ∃ d c', dirty d ∧ ι0 d = some (k, c')
  new : ∀ b, ι0 b = none → ι b ≠ none → m0 ≤ b
  rest : Same3 w0 w
theorem Fr.refl (m0 : Nat) (dirty : Nat → Prop) (ι : Img) (w : World) : Fr m0 dirty ι w ι w :=
  ⟨Ext1.refl _, Nat.le_refl _, fun _ _ _ => rfl, fun b k c h1 h2 => (by rw [h1] at h2; cases h2), fun b h1 h2 => absurd h1 h2, Same3.refl _⟩
theorem Fr.step {m0 : Nat} {dirty : Nat → Prop} {ι0 ι ι' : Img} {w0 w w' : World} {E : Eff} {v' : Value} (h : Fr m0 dirty ι0 w0 ι w) (s : Step ι w ι' w' E v') (hd : ∀ b, b ∈ keys E.wr → ι0 b ≠ none → dirty b) (hm : m0 ≤ E.lo) : Fr m0 dirty ι0 w0 ι' w' where
  ext := h.ext.trans s.ext
  size := Nat.le_trans h.size s.size
  frame := fun k hk hn => by
    rw [s.frame k (Nat.lt_of_lt_of_le hk h.size) ?_]
    · exact h.frame k hk hn
    · intro b c hb e
      cases e0 : ι0 b with
      | some x =>
        have := h.ext b x e0
        rw [e] at this
        simp only [Option.some.injEq] at this
        subst this
        exact hn b c (hd b hb (by rw [e0]; simp)) e0
      | none =>
        rcases h.img b k c e0 e with q | ⟨d, c', q1, q2⟩
        · omega
        · exact hn d c' q1 q2
  img := fun b k c e0 e => by
    cases e1 : ι b with
    | some x =>
      have := s.ext b x e1
      rw [e] at this
      simp only [Option.some.injEq] at this
      subst this
      exact h.img b k c e0 e1
    | none =>
      rcases s.img b k c e1 e with q | ⟨d, c', q1, q2, q3⟩
      · exact .inl (Nat.le_trans h.size q)
      · cases e2 : ι0 d with
        | some x =>
          have := h.ext d x e2
          rw [q3] at this
          simp only [Option.some.injEq] at this
          subst this
          exact .inr ⟨d, c', hd d q2 (by rw [e2]; simp), e2⟩
        | none => exact h.img d k c' e2 q3
  new := fun b e0 e => by
    cases e1 : ι b with
    | some x => exact h.new b e0 (by rw [e1]; simp)
    | none => exact Nat.le_trans hm (s.new b e1 e).1
  rest := h.rest.trans s.rest
theorem Fr.dirt {m0 : Nat} {d d' : Nat → Prop} {ι0 ι : Img} {w0 w : World} (h : Fr m0 d ι0 w0 ι w) (hd : ∀ b, d b → d' b) : Fr m0 d' ι0 w0 ι w :=
  ⟨h.ext, h.size, fun k hk hn => h.frame k hk fun b c hb => hn b c (hd b hb), fun b k c e0 e => (h.img b k c e0 e).imp id fun ⟨x, c', q1, q2⟩ => ⟨x, c', hd x q1, q2⟩, h.new, h.rest⟩

/-- one operation of a region, as it went in the text's order -/
structure Stp where
  dst : Option Nat
  looks : List Nat
  eff : Eff
def tmpAt : List Stp → Nat → (Nat → Bool) → Nat → Value → Value
  | [], _, _, _, v => v
  | s :: l, i, D, t, v => tmpAt l (i + 1) D t (if D i = true ∧ s.dst = some t then s.eff.out else v)
def blkAt : List Stp → Nat → (Nat → Bool) → Nat → Option Blk → Option Blk
  | [], _, _, _, o => o
  | s :: l, i, D, b, o => blkAt l (i + 1) D b (if D i = true then (match look s.eff.wr b with | some x => x | none => o) else o)
theorem tmpAt_congr : ∀ (l : List Stp) (i : Nat) (D D' : Nat → Bool) (t : Nat) (v : Value), (∀ j s, l[j]? = some s → s.dst = some t → D (i + j) = D' (i + j)) → tmpAt l i D t v = tmpAt l i D' t v
  | [], _, _, _, _, _, _ => rfl
  | s :: l, i, D, D', t, v, h => by
    simp only [tmpAt]
    have e : (if D i = true ∧ s.dst = some t then s.eff.out else v) = (if D' i = true ∧ s.dst = some t then s.eff.out else v) := by
      by_cases hs : s.dst = some t
      · have := h 0 s rfl hs; simp only [Nat.add_zero] at this; rw [this]
      · rw [if_neg (fun q => hs q.2), if_neg (fun q => hs q.2)]
    rw [e]
    exact tmpAt_congr l (i + 1) D D' t _ fun j s' hj hs => by
      have := h (j + 1) s' (by simpa using hj) hs
      rwa [show i + (j + 1) = i + 1 + j by omega] at this
theorem tmpAt_no : ∀ (l : List Stp) (i : Nat) (D : Nat → Bool) (t : Nat) (v : Value), (∀ j s, l[j]? = some s → s.dst = some t → D (i + j) = false) → tmpAt l i D t v = v
  | [], _, _, _, _, _ => rfl
  | s :: l, i, D, t, v, h => by
    simp only [tmpAt]
    rw [if_neg (fun q => by have := h 0 s rfl q.2; simp only [Nat.add_zero] at this; rw [this] at q; cases q.1)]
    exact tmpAt_no l (i + 1) D t v fun j s' hj hs => by
      have := h (j + 1) s' (by simpa using hj) hs
      rwa [show i + (j + 1) = i + 1 + j by omega] at this
theorem tmpAt_last : ∀ (l : List Stp) (i : Nat) (D : Nat → Bool) (t : Nat) (v : Value) (k : Nat) (s : Stp), l[k]? = some s → s.dst = some t → D (i + k) = true → (∀ j s', l[j]? = some s' → k < j → s'.dst = some t → D (i + j) = false) → tmpAt l i D t v = s.eff.out
  | [], _, _, _, _, _, _, h, _, _, _ => by simp at h
  | x :: l, i, D, t, v, 0, s, h, hs, hD, hn => by
    simp only [List.getElem?_cons_zero, Option.some.injEq] at h
    subst h
    simp only [tmpAt]
    rw [Nat.add_zero] at hD
    rw [if_pos ⟨hD, hs⟩]
    exact tmpAt_no l (i + 1) D t _ fun j s' hj hs' => by
      have := hn (j + 1) s' (by simpa using hj) (by omega) hs'
      rwa [show i + (j + 1) = i + 1 + j by omega] at this
  | x :: l, i, D, t, v, k + 1, s, h, hs, hD, hn => by
    simp only [tmpAt]
    refine tmpAt_last l (i + 1) D t _ k s (by simpa using h) hs (by rwa [show i + (k + 1) = i + 1 + k by omega] at hD) fun j s' hj hk hs' => ?_
    have := hn (j + 1) s' (by simpa using hj) (by omega) hs'
    rwa [show i + (j + 1) = i + 1 + j by omega] at this
theorem blkAt_congr : ∀ (l : List Stp) (i : Nat) (D D' : Nat → Bool) (b : Nat) (o : Option Blk), (∀ j s, l[j]? = some s → b ∈ keys s.eff.wr → D (i + j) = D' (i + j)) → blkAt l i D b o = blkAt l i D' b o
  | [], _, _, _, _, _, _ => rfl
  | s :: l, i, D, D', b, o, h => by
    simp only [blkAt]
    have e : (if D i = true then (match look s.eff.wr b with | some x => x | none => o) else o) = (if D' i = true then (match look s.eff.wr b with | some x => x | none => o) else o) := by
      cases hl : look s.eff.wr b with
      | some x => have := h 0 s rfl (look_keys hl); simp only [Nat.add_zero] at this; rw [this]
      | none => simp
    rw [e]
    exact blkAt_congr l (i + 1) D D' b _ fun j s' hj hs => by
      have := h (j + 1) s' (by simpa using hj) hs
      rwa [show i + (j + 1) = i + 1 + j by omega] at this
theorem blkAt_no : ∀ (l : List Stp) (i : Nat) (D : Nat → Bool) (b : Nat) (o : Option Blk), (∀ j s, l[j]? = some s → b ∈ keys s.eff.wr → D (i + j) = false) → blkAt l i D b o = o
  | [], _, _, _, _, _ => rfl
  | s :: l, i, D, b, o, h => by
    simp only [blkAt]
    have e : (if D i = true then (match look s.eff.wr b with | some x => x | none => o) else o) = o := by
      cases hl : look s.eff.wr b with
      | some x => have := h 0 s rfl (look_keys hl); simp only [Nat.add_zero] at this; rw [this]; rfl
      | none => simp
    rw [e]
    exact blkAt_no l (i + 1) D b o fun j s' hj hs => by
      have := h (j + 1) s' (by simpa using hj) hs
      rwa [show i + (j + 1) = i + 1 + j by omega] at this
theorem blkAt_last : ∀ (l : List Stp) (i : Nat) (D : Nat → Bool) (b : Nat) (o : Option Blk) (k : Nat) (s : Stp) (x : Option Blk), l[k]? = some s → look s.eff.wr b = some x → D (i + k) = true → (∀ j s', l[j]? = some s' → k < j → b ∈ keys s'.eff.wr → D (i + j) = false) → blkAt l i D b o = x
  | [], _, _, _, _, _, _, _, h, _, _, _ => by simp at h
  | y :: l, i, D, b, o, 0, s, x, h, hs, hD, hn => by
    simp only [List.getElem?_cons_zero, Option.some.injEq] at h
    subst h
    simp only [blkAt]
    rw [Nat.add_zero] at hD
    rw [if_pos hD, hs]
    exact blkAt_no l (i + 1) D b _ fun j s' hj hs' => by
      have := hn (j + 1) s' (by simpa using hj) (by omega) hs'
      rwa [show i + (j + 1) = i + 1 + j by omega] at this
  | y :: l, i, D, b, o, k + 1, s, x, h, hs, hD, hn => by
    simp only [blkAt]
    refine blkAt_last l (i + 1) D b _ k s x (by simpa using h) hs (by rwa [show i + (k + 1) = i + 1 + k by omega] at hD) fun j s' hj hk hs' => ?_
    have := hn (j + 1) s' (by simpa using hj) (by omega) hs'
    rwa [show i + (j + 1) = i + 1 + j by omega] at this

def meets (l m : List Nat) : Bool := l.any fun x => m.contains x
theorem meets_of {l m : List Nat} {x : Nat} (h : x ∈ l) (h' : x ∈ m) : meets l m = true := by
  simp only [meets, List.any_eq_true]
  exact ⟨x, h, by simpa using h'⟩
/-- two operations, x ahead of y in the text: whether their order matters -/
def conf (x y : Stp) : Bool :=
  (match x.dst with | some d => y.looks.contains d || y.dst == some d | none => false) || (match y.dst with | some d => x.looks.contains d | none => false) ||
  meets (keys x.eff.wr) y.eff.rd || meets (keys x.eff.wr) (keys y.eff.wr) || meets x.eff.rd (keys y.eff.wr)
theorem conf_look {x y : Stp} {d : Nat} (h : x.dst = some d) (h' : d ∈ y.looks) : conf x y = true := by simp [conf, h, h']
theorem conf_dst {x y : Stp} {d : Nat} (h : x.dst = some d) (h' : y.dst = some d) : conf x y = true := by simp [conf, h, h']
theorem conf_looked {x y : Stp} {d : Nat} (h : d ∈ x.looks) (h' : y.dst = some d) : conf x y = true := by simp [conf, h, h']
theorem conf_wr {x y : Stp} {b : Nat} (h : b ∈ keys x.eff.wr) (h' : b ∈ y.eff.rd) : conf x y = true := by simp [conf, meets_of h h']
theorem conf_ww {x y : Stp} {b : Nat} (h : b ∈ keys x.eff.wr) (h' : b ∈ keys y.eff.wr) : conf x y = true := by simp [conf, meets_of h h']
theorem conf_rw {x y : Stp} {b : Nat} (h : b ∈ x.eff.rd) (h' : b ∈ keys y.eff.wr) : conf x y = true := by simp [conf, meets_of h h']

def rho (T : Nat → Value) : Operand → Value
  | .tmp t => T t
  | .const v => v
  | .global g => .pointer (some ⟨g, 0, none⟩)
  | .func f => .func (.func f) #[] #[]
/-- constants without addresses, variables of the program's own -/
def opnd (G : Nat) : Operand → Bool
  | .const v => free 2 v
  | .global g => decide (g < G)
  | _ => true
def boolOf : Value → Option Bool
  | .bool b => some b
  | _ => none
def wantedA (ops : Array Oper) (T : Nat → Value) (o : Oper) : Bool :=
  match o.guard with
  | none => true
  | some (j, want) => match (ops[j]?).bind (·.dst) with
    | some d => boolOf (T d) == some want
    | none => false

/-- the state behind the operations D -/
structure RD (steps : List Stp) (t0 : Nat → Value) (σ0 : Hp) (n0 : Nat) (D : Nat → Bool) (ι : Img) (a : Act) (w : World) : Prop where
  tm : ∀ t, VR ι (tmpAt steps 0 D t (t0 t)) (a.tmps.getD t undef)
  sz : ∀ (i : Nat) (s : Stp) (d : Nat), steps[i]? = some s → s.dst = some d → d < a.tmps.size
  hr : HR ι w (fun b => blkAt steps 0 D b (σ0 b))
  dom : ∀ b, ι b ≠ none → b < n0 ∨ ∃ (i : Nat) (s : Stp), D i = true ∧ steps[i]? = some s ∧ s.eff.lo ≤ b ∧ b < s.eff.hi

/-- what the evaluator has seen to -/
structure Good (P : Program) (G : Nat) (ops : Array Oper) (steps : List Stp) (pre : Nat → Nat) (t0 : Nat → Value) (σ0 : Hp) (n0 : Nat) : Prop where
  at_ : ∀ (i : Nat) (o : Oper), ops[i]? = some o → ∃ s : Stp, steps[i]? = some s ∧ s.dst = o.dst ∧ s.looks = o.looksAt ops ∧ n0 ≤ s.eff.lo ∧
    ((wantedA ops (fun t => tmpAt steps 0 (fun j => decide (j < i)) t (t0 t)) o = true ∧ (∀ x ∈ o.op.operands, opnd G x = true) ∧ OpOK P G o (rho fun t => tmpAt steps 0 (fun j => decide (j < i)) t (t0 t)) (fun b => blkAt steps 0 (fun j => decide (j < i)) b (σ0 b)) s.eff ∧
        (∀ b, b ∈ s.eff.rd → blkAt steps 0 (fun j => decide (j < i)) b (σ0 b) ≠ none) ∧ (∀ b, b ∈ keys s.eff.wr → b ∈ s.eff.rd ∨ (s.eff.lo ≤ b ∧ b < s.eff.hi))) ∨
      (wantedA ops (fun t => tmpAt steps 0 (fun j => decide (j < i)) t (t0 t)) o = false ∧ s.eff.out = undef ∧ s.eff.wr = []))
  len : steps.length = ops.size
  rng : ∀ (i j : Nat) (s s' : Stp), steps[i]? = some s → steps[j]? = some s' → i < j → s.eff.hi ≤ s'.eff.lo
  pre : ∀ (j : Nat) (o : Oper), ops[j]? = some o → ∀ i : Nat, (pre j).testBit i = true → ∃ e ∈ o.after, Region.binds .any e = true ∧ (i = e.on ∨ (e.on < j ∧ (pre e.on).testBit i = true))
  back : ∀ (j : Nat) (o : Oper), ops[j]? = some o → ∀ e ∈ o.after, Region.binds .any e = true → e.on < j

/-- whose order matters is ordered -/
def Ind (steps : List Stp) (pre : Nat → Nat) : Prop := ∀ (i j : Nat) (s s' : Stp), steps[i]? = some s → steps[j]? = some s' → i < j → conf s s' = true → (pre j).testBit i = true
/-- of those that matter to operation i, who is done: the ones ahead of it -/
def Agr (steps : List Stp) (D : Nat → Bool) (i : Nat) (s : Stp) : Prop := ∀ (j : Nat) (s' : Stp), steps[j]? = some s' → ((j < i → conf s' s = true) ∧ (i < j → conf s s' = true)) → D j = decide (j < i)

section
variable {P : Program} {G : Nat} {ops : Array Oper} {steps : List Stp} {pre : Nat → Nat} {t0 : Nat → Value} {σ0 : Hp} {n0 : Nat} {D : Nat → Bool} {ι : Img} {a : Act} {w : World}

def Shut (ops : Array Oper) (D : Nat → Bool) : Prop := ∀ (i : Nat) (o : Oper), D i = true → ops[i]? = some o → ∀ e ∈ o.after, Region.binds .any e = true → D e.on = true

theorem Good.pre_in (g : Good P G ops steps pre t0 σ0 n0) (hD : Shut ops D) : ∀ (j : Nat) (o : Oper), ops[j]? = some o → (∀ e ∈ o.after, Region.binds .any e = true → D e.on = true) → ∀ i, (pre j).testBit i = true → D i = true := by
  intro j
  induction j using Nat.strongRecOn with
  | _ j ih =>
    intro o ho he i hi
    obtain ⟨e, h1, h2, h3⟩ := g.pre j o ho i hi
    rcases h3 with rfl | ⟨h3, h4⟩
    · exact he e h1 h2
    · have hl : e.on < ops.size := by
        have := (Array.getElem?_eq_some_iff.1 ho).1
        omega
      exact ih e.on h3 ops[e.on] (Array.getElem?_eq_getElem hl) (hD e.on _ (he e h1 h2) (Array.getElem?_eq_getElem hl)) i h4

theorem Good.op_of (g : Good P G ops steps pre t0 σ0 n0) {i : Nat} {s : Stp} (h : steps[i]? = some s) : ∃ o, ops[i]? = some o := by
  have hl : i < ops.size := by rw [← g.len]; exact (List.getElem?_eq_some_iff.1 h).1
  exact ⟨_, Array.getElem?_eq_getElem hl⟩
/-- who is done of two whose order matters -/
theorem Good.before (g : Good P G ops steps pre t0 σ0 n0) (hind : Ind steps pre) (hD : Shut ops D) {i j : Nat} {s s' : Stp} (hi : steps[i]? = some s) (hj : steps[j]? = some s') (hlt : i < j) (hc : conf s s' = true) (hj' : D j = true) : D i = true := by
  obtain ⟨o, ho⟩ := g.op_of hj
  exact g.pre_in hD j o ho (hD j o hj' ho) i (hind i j s s' hi hj hlt hc)

theorem Good.agree (g : Good P G ops steps pre t0 σ0 n0) (hind : Ind steps pre) (hD : Shut ops D) {i : Nat} {o : Oper} {s : Stp} (ho : ops[i]? = some o) (hs : steps[i]? = some s) (hi : D i = false) (hr : ∀ e ∈ o.after, Region.binds .any e = true → D e.on = true) : Agr steps D i s := by
  intro j s' hj hc
  rcases Nat.lt_trichotomy j i with h | h | h
  · rw [decide_eq_true h]
    exact g.pre_in hD i o ho hr j (hind j i s' s hj hs h (hc.1 h))
  · subst h
    rw [hi]; simp
  · rw [decide_eq_false (by omega)]
    cases hj' : D j with
    | false => rfl
    | true =>
      have := g.before hind hD hs hj h (hc.2 h) hj'
      rw [hi] at this; cases this

theorem tmp_eq {i : Nat} {s : Stp} (hag : Agr steps D i s) {t : Nat} (ht : t ∈ s.looks) :
    tmpAt steps 0 D t (t0 t) = tmpAt steps 0 (fun j => decide (j < i)) t (t0 t) := by
  refine tmpAt_congr _ _ _ _ _ _ fun j s' hj hd => ?_
  simp only [Nat.zero_add]
  exact hag j s' hj ⟨fun _ => conf_look hd ht, fun _ => conf_looked ht hd⟩
theorem blk_eq {i : Nat} {s : Stp} (hag : Agr steps D i s) {b : Nat} (hb : b ∈ s.eff.rd) :
    blkAt steps 0 D b (σ0 b) = blkAt steps 0 (fun j => decide (j < i)) b (σ0 b) := by
  refine blkAt_congr _ _ _ _ _ _ fun j s' hj hd => ?_
  simp only [Nat.zero_add]
  exact hag j s' hj ⟨fun _ => conf_wr hd hb, fun _ => conf_rw hb hd⟩

theorem VR.bool_of {ι : Img} {v v' : Value} (h : VR ι v v') : boolOf v = boolOf v' := by
  cases h <;> rfl
theorem wanted_eq {T : Nat → Value} {o : Oper} (h : ∀ t ∈ o.looksAt ops, VR ι (T t) (a.tmps.getD t undef)) : Region.wanted o (yielded ops a.tmps) = wantedA ops T o := by
  unfold Region.wanted wantedA
  cases hg : o.guard with
  | none => rfl
  | some jw =>
    obtain ⟨j, want⟩ := jw
    simp only
    have hy : yielded ops a.tmps j = match (ops[j]?).bind (·.dst) with | some d => boolOf (a.tmps.getD d undef) | none => none := by
      unfold yielded
      cases hd : (ops[j]?).bind (·.dst) with
      | none => rfl
      | some d =>
        simp only [Option.bind_some]
        rcases Nat.lt_or_ge d a.tmps.size with hl | hl
        · simp only [Array.getD_eq_getD_getElem?, Array.getElem?_eq_getElem hl, Option.getD_some]
          cases a.tmps[d] <;> rfl
        · simp only [Array.getD_eq_getD_getElem?, Array.getElem?_eq_none hl, Option.getD_none, undef]
          rfl
    rw [hy]
    cases hd : (ops[j]?).bind (·.dst) with
    | none => rfl
    | some d =>
      simp only
      rw [(h d (by unfold Oper.looksAt; simp [hg, hd])).bool_of]

theorem setD_same {listed : Array Bool} {i : Nat} (h : i < listed.size) : (listed.setIfInBounds i true).getD i false = true := by simp [h]
theorem shut_set {listed : Array Bool} {i : Nat} {o : Oper} (hD : Shut ops fun j => listed.getD j false) (ho : ops[i]? = some o) (hr : ∀ e ∈ o.after, Region.binds .any e = true → listed.getD e.on false = true) : Shut ops fun j => (listed.setIfInBounds i true).getD j false := by
  intro j o' hj ho' e he hb
  by_cases hji : i = j
  · subst hji
    rw [ho] at ho'
    simp only [Option.some.injEq] at ho'
    subst ho'
    exact getD_set_true (hr e he hb)
  · have hj' : (listed.setIfInBounds i true).getD j false = true := hj
    rw [getD_set_ne false hji] at hj'
    exact getD_set_true (hD j o' hj' ho' e he hb)

theorem put_getD {a : Act} {o : Option Nat} {v : Value} {t : Nat} (h : o ≠ some t) : (a.put o v).tmps.getD t undef = a.tmps.getD t undef := by
  cases o with
  | none => rfl
  | some d => simp only [Act.put]; simp [Array.getElem?_setIfInBounds_ne (fun e : d = t => h (by rw [e]))]
theorem put_same {a : Act} {d : Nat} {v : Value} (h : d < a.tmps.size) : (a.put (some d) v).tmps.getD d undef = v := by
  simp [Act.put, h]
theorem put_size {a : Act} {o : Option Nat} {v : Value} : (a.put o v).tmps.size = a.tmps.size := by cases o <;> simp [Act.put]

/-- the state, one operation on -/
theorem RD.next {listed : Array Bool} (hls : listed.size = ops.size) {i : Nat} {o : Oper} {s : Stp} (ho : ops[i]? = some o) (hs : steps[i]? = some s) (hag : Agr steps (fun j => listed.getD j false) i s) (h : RD steps t0 σ0 n0 (fun j => listed.getD j false) ι a w) {ι' : Img} {v' : Value} {w' : World} (st : Step ι w ι' w' s.eff v') (hdst : s.dst = o.dst)
    (hlive : ∀ b, b ∈ s.eff.rd → blkAt steps 0 (fun j => listed.getD j false) b (σ0 b) ≠ none) (hkey : ∀ b, b ∈ keys s.eff.wr → b ∈ s.eff.rd ∨ (s.eff.lo ≤ b ∧ b < s.eff.hi)) (hfree : ∀ b, s.eff.lo ≤ b → b < s.eff.hi → ι b = none) :
    RD steps t0 σ0 n0 (fun j => (listed.setIfInBounds i true).getD j false) ι' (a.put o.dst v') w' := by
  have hlt : i < listed.size := by rw [hls]; exact (Array.getElem?_eq_some_iff.1 ho).1
  have hin : (listed.setIfInBounds i true).getD (0 + i) false = true := by rw [Nat.zero_add]; exact setD_same hlt
  have hne : ∀ j, j ≠ i → (listed.setIfInBounds i true).getD j false = listed.getD j false := fun j hj => getD_set_ne false (Ne.symm hj)
  have later : ∀ j s', steps[j]? = some s' → i < j → conf s s' = true → (listed.setIfInBounds i true).getD (0 + j) false = false := fun j s' hj hlt' hc => by
    rw [Nat.zero_add, hne j (by omega)]
    have := hag j s' hj ⟨fun h => absurd h (by omega), fun _ => hc⟩
    simp only at this
    rw [this]; exact decide_eq_false (by omega)
  have tmE : ∀ t, s.dst = some t → tmpAt steps 0 (fun j => (listed.setIfInBounds i true).getD j false) t (t0 t) = s.eff.out := fun t ht =>
    tmpAt_last steps 0 _ t _ i s hs ht hin fun j s' hj hlt' hs' => later j s' hj hlt' (conf_dst ht hs')
  have tmN : ∀ t, s.dst ≠ some t → tmpAt steps 0 (fun j => (listed.setIfInBounds i true).getD j false) t (t0 t) = tmpAt steps 0 (fun j => listed.getD j false) t (t0 t) := fun t ht =>
    tmpAt_congr _ _ _ _ _ _ fun j s' hj hs' => by
      simp only [Nat.zero_add]
      refine hne j fun e => ?_
      subst e
      rw [hs] at hj
      simp only [Option.some.injEq] at hj
      subst hj
      exact ht hs'
  have blE : ∀ b x, look s.eff.wr b = some x → blkAt steps 0 (fun j => (listed.setIfInBounds i true).getD j false) b (σ0 b) = x := fun b x hx =>
    blkAt_last steps 0 _ b _ i s x hs hx hin fun j s' hj hlt' hs' => later j s' hj hlt' (conf_ww (look_keys hx) hs')
  have blN : ∀ b, look s.eff.wr b = none → blkAt steps 0 (fun j => (listed.setIfInBounds i true).getD j false) b (σ0 b) = blkAt steps 0 (fun j => listed.getD j false) b (σ0 b) := fun b hb =>
    blkAt_congr _ _ _ _ _ _ fun j s' hj hs' => by
      simp only [Nat.zero_add]
      refine hne j fun e => ?_
      subst e
      rw [hs] at hj
      simp only [Option.some.injEq] at hj
      subst hj
      exact look_ne hs' hb
  have live : ∀ b, b ∈ s.eff.rd → ∃ B, blkAt steps 0 (fun j => listed.getD j false) b (σ0 b) = some B := fun b hb => Option.ne_none_iff_exists'.1 (hlive b hb)
  have old : ∀ b B, blkAt steps 0 (fun j => listed.getD j false) b (σ0 b) = some B → look s.eff.wr b = none → ∃ k c, ι b = some (k, c) ∧ BR ι w k c B ∧ w'.heap[k]? = w.heap[k]? := fun b B hB hb => by
    obtain ⟨k, c, e1, e2⟩ := h.hr.at_ b B hB
    refine ⟨k, c, e1, e2, st.frame k e2.lt fun b2 c2 hb2 e3 => ?_⟩
    rcases hkey b2 hb2 with q | ⟨q1, q2⟩
    · obtain ⟨B2, hB2⟩ := live b2 q
      have := h.hr.inj b b2 B B2 k c c2 hB hB2 e1 e3
      subst this
      exact look_ne hb2 hb
    · rw [hfree b2 q1 q2] at e3; cases e3
  have mix : ∀ b b' B B' k c c', look s.eff.wr b = some (some B) → blkAt steps 0 (fun j => listed.getD j false) b' (σ0 b') = some B' → look s.eff.wr b' = none → ι' b = some (k, c) → ι' b' = some (k, c') → b = b' := fun b b' B B' k c c' hb hB' hb' e e' => by
    obtain ⟨k2, c2, q1, q2, q3⟩ := old b' B' hB' hb'
    have := st.ext _ _ q1
    rw [e'] at this
    simp only [Option.some.injEq, Prod.mk.injEq] at this
    obtain ⟨rfl, rfl⟩ := this
    cases e1 : ι b with
    | some x =>
      have := st.ext _ _ e1
      rw [e] at this
      simp only [Option.some.injEq] at this
      subst this
      rcases hkey b (look_keys hb) with q | ⟨p1, p2⟩
      · obtain ⟨B2, hB2⟩ := live b q
        exact h.hr.inj b b' B2 B' _ _ _ hB2 hB' e1 q1
      · rw [hfree b p1 p2] at e1; cases e1
    | none =>
      rcases st.img b k c e1 e with q | ⟨d, c3, p1, p2, p3⟩
      · have := q2.lt; omega
      · obtain ⟨B2, hB2⟩ := live d p1
        have := h.hr.inj d b' B2 B' _ _ _ hB2 hB' p3 q1
        subst this
        exact absurd hb' (look_ne p2)
  refine ⟨fun t => ?_, fun j s' d hj hd => by rw [put_size]; exact h.sz j s' d hj hd, ⟨fun b B hB => ?_, fun b b' B B' k c c' hB hB' e e' => ?_⟩, fun b hb => ?_⟩
  · by_cases ht : s.dst = some t
    · rw [tmE t ht, ← hdst, ht, put_same (h.sz i s t hs ht)]
      exact st.out
    · rw [tmN t ht, put_getD (by rw [← hdst]; exact ht)]
      exact (h.tm t).mono st.ext
  · cases hb : look s.eff.wr b with
    | some x =>
      rw [blE b x hb] at hB
      subst hB
      exact st.wr b B hb
    | none =>
      rw [blN b hb] at hB
      obtain ⟨k, c, q1, q2, q3⟩ := old b B hB hb
      exact ⟨k, c, st.ext _ _ q1, q2.mono st.ext q3⟩
  · cases hb : look s.eff.wr b with
    | some x =>
      rw [blE b x hb] at hB
      subst hB
      cases hb' : look s.eff.wr b' with
      | some x' =>
        rw [blE b' x' hb'] at hB'
        subst hB'
        exact st.inj b b' B B' k c c' hb hb' e e'
      | none =>
        rw [blN b' hb'] at hB'
        exact mix b b' B B' k c c' hb hB' hb' e e'
    | none =>
      rw [blN b hb] at hB
      cases hb' : look s.eff.wr b' with
      | some x' =>
        rw [blE b' x' hb'] at hB'
        subst hB'
        exact (mix b' b B' B k c' c hb' hB hb e' e).symm
      | none =>
        rw [blN b' hb'] at hB'
        obtain ⟨k1, c1, q1, -, -⟩ := old b B hB hb
        obtain ⟨k2, c2, p1, -, -⟩ := old b' B' hB' hb'
        have e1 := st.ext _ _ q1
        have e2 := st.ext _ _ p1
        rw [e] at e1; rw [e'] at e2
        simp only [Option.some.injEq, Prod.mk.injEq] at e1 e2
        obtain ⟨rfl, rfl⟩ := e1
        obtain ⟨rfl, rfl⟩ := e2
        exact h.hr.inj b b' B B' _ _ _ hB hB' q1 p1
  · cases e1 : ι b with
    | some x =>
      rcases h.dom b (by rw [e1]; simp) with q | ⟨j, s', q1, q2, q3, q4⟩
      · exact .inl q
      · exact .inr ⟨j, s', getD_set_true q1, q2, q3, q4⟩
    | none =>
      obtain ⟨q1, q2⟩ := st.new b e1 hb
      exact .inr ⟨i, s, setD_same hlt, hs, q1, q2⟩
end
end Go.Ev
