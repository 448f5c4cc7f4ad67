/-
  Evaluation of calls, part 6: code and calls do what the evaluator says. No program in sight.
-/
import Derived.Test.YtelnnjofccldgaaGreatDoorEvF
import Derived.Scope
namespace Go.Ev
open Go

/-- the state stands for a call's slots and world -/
structure Rel (m0 : Nat) (dirty : Nat → Prop) (ι0 : Img) (w0 : World) (st : St) (ι : Img) (a : Act) (w : World) : Prop where
  tm : ∀ t, VR ι (st.T t) (a.tmps.getD t undef)
  sz : a.tmps.size = st.sz
  hr : HR ι w (hp st.heap)
  dom : ∀ b, ι b ≠ none → b < st.next
  fr : Fr m0 dirty ι0 w0 ι w
  df : a.defers = []

theorem VRs.getD {ι : Img} {l l' : List Value} (h : VRs ι l l') (t : Nat) : VR ι (l.getD t undef) (l'.getD t undef) := by
  rw [List.getD_eq_getElem?_getD, List.getD_eq_getElem?_getD]
  cases hl : l[t]? with
  | some v =>
    obtain ⟨v', h1, h2⟩ := h.at t hl
    rw [h1]; exact h2
  | none =>
    have : l'[t]? = none := by
      rw [List.getElem?_eq_none_iff] at hl ⊢
      rw [← h.length]; exact hl
    rw [this]; exact .same rfl
theorem VRs.of_at {ι : Img} : ∀ {l l' : List Value}, l.length = l'.length → (∀ t, VR ι (l.getD t undef) (l'.getD t undef)) → VRs ι l l'
  | [], [], _, _ => .nil
  | v :: l, v' :: l', h, k => .cons (by simpa using k 0) (VRs.of_at (by simpa using h) fun t => by simpa using k (t + 1))
  | [], _ :: _, h, _ => by simp at h
  | _ :: _, [], h, _ => by simp at h
theorem arr_getD (a : Array Value) (t : Nat) : a.getD t undef = a.toList.getD t undef := by
  rw [Array.getD_eq_getD_getElem?, List.getD_eq_getElem?_getD, Array.getElem?_toList]

section
variable {P : Program} {Q : Exit → Act → World → Prop}
/-- in the middle of a loop, ahead of a round -/
def Mid (P : Program) (c : Code) (Q : Exit → Act → World → Prop) (a : Act) (w : World) : Prop := ∀ (b : Frame) (k : List Item) (cs : List Frame),
  ∃ e a' w', Q e a' w' ∧ Arrives P (lone (b.at a (.code c :: .inLoop c :: k)) cs w) b k cs e a' w'
theorem Mid.loop {c : Code} {a : Act} {w : World} (h : Mid P c Q a w) : (Code.loop c).wp P Q a w := fun b k cs =>
  let ⟨e, a', w', q, r⟩ := h b k cs
  ⟨e, a', w', q, .of_steps (.one step_loop) r⟩
theorem Mid.of {c : Code} {a : Act} {w : World} (h : c.wp P (Exit.then (Mid P c Q) Q) a w) : Mid P c Q a w := by
  intro b k cs
  obtain ⟨e, a1, w1, hq, harr⟩ := h b (.inLoop c :: k) cs
  cases e with
  | normal =>
    obtain ⟨e2, a2, w2, hq2, harr2⟩ := hq b k cs
    exact ⟨e2, a2, w2, hq2, .of_steps (Steps.trans harr (.one step_inLoop)) harr2⟩
  | exit id => exact ⟨_, a1, w1, hq, .pass (x := .inLoop c) rfl (fun _ _ => .inl (by simp)) harr⟩
  | goto l => exact ⟨_, a1, w1, hq, .pass (x := .inLoop c) rfl (fun _ _ => .inl (by simp)) harr⟩
  | ret => exact ⟨_, a1, w1, hq, .pass (x := .inLoop c) rfl (fun _ _ => .inl (by simp)) harr⟩
  | panic ch => exact ⟨_, a1, w1, hq, .pass (x := .inLoop c) rfl (fun _ _ => .inl (by simp)) harr⟩
  | outgrown => exact ⟨_, a1, w1, hq, .pass (x := .inLoop c) rfl (fun _ _ => .inl (by simp)) harr⟩
/-- inside a scope, ahead of a piece of code -/
def MidS (P : Program) (s c : Code) (Q : Exit → Act → World → Prop) (a : Act) (w : World) : Prop := ∀ (b : Frame) (k : List Item) (cs : List Frame),
  ∃ e a' w', Q e a' w' ∧ Arrives P (lone (b.at a (.code c :: .inScope s :: k)) cs w) b k cs e a' w'
theorem MidS.scope {c : Code} {a : Act} {w : World} (h : MidS P c c Q a w) : (Code.scope c).wp P Q a w := fun b k cs =>
  let ⟨e, a', w', q, r⟩ := h b k cs
  ⟨e, a', w', q, .of_steps (.one step_scope) r⟩
def jumpS (P : Program) (s : Code) (Q : Exit → Act → World → Prop) : Exit → Act → World → Prop
  | .goto l, a, w => match findLabel s l with | some rest => MidS P s rest Q a w | none => Q (.goto l) a w
  | e, a, w => Q e a w
theorem MidS.of {s c : Code} {a : Act} {w : World} (h : c.wp P (jumpS P s Q) a w) : MidS P s c Q a w := by
  intro b k cs
  obtain ⟨e, a1, w1, hq, harr⟩ := h b (.inScope s :: k) cs
  cases e with
  | normal => exact ⟨.normal, a1, w1, hq, Steps.trans harr (.one step_inScope)⟩
  | exit id => exact ⟨.exit id, a1, w1, hq, fun k' hk => harr k' (by simp [exitTo, hk])⟩
  | goto l =>
    cases hf : findLabel s l with
    | some rest =>
      simp only [jumpS, hf] at hq
      obtain ⟨e2, a2, w2, hq2, harr2⟩ := hq b k cs
      exact ⟨e2, a2, w2, hq2, .of_steps (harr _ (by simp [gotoIn, hf])) harr2⟩
    | none =>
      simp only [jumpS, hf] at hq
      exact ⟨.goto l, a1, w1, hq, fun k' hk => harr k' (by simp [gotoIn, hf, hk])⟩
  | ret => exact ⟨_, a1, w1, hq, harr⟩
  | panic ch => exact ⟨_, a1, w1, hq, harr⟩
  | outgrown => exact ⟨_, a1, w1, hq, harr⟩
theorem statC_find {G N : Nat} : ∀ {c rest : Code} {l : Nat}, statC G N c = true → findLabel c l = some rest → statC G N rest = true := by
  intro c
  induction c with
  | seq a b iha ihb =>
    intro rest l hs hf
    simp only [statC, Bool.and_eq_true] at hs
    simp only [findLabel] at hf
    cases h1 : findLabel a l with
    | some r =>
      rw [h1] at hf
      simp only [Option.some.injEq] at hf
      subst hf
      simp only [statC, Bool.and_eq_true]
      exact ⟨iha hs.1 h1, hs.2⟩
    | none =>
      rw [h1] at hf
      exact ihb hs.2 hf
  | label l' =>
    intro rest l _ hf
    simp only [findLabel] at hf
    split at hf
    · simp only [Option.some.injEq] at hf
      subst hf; rfl
    · cases hf
  | _ => intro rest l _ hf; simp [findLabel] at hf
/-- the code, or what is left of a loop -/
def WPm (P : Program) (c : Code) (Q : Exit → Act → World → Prop) (a : Act) (w : World) : Prop := c.wp P Q a w ∧ ∀ c', c = .loop c' → Mid P c' Q a w
theorem WPm.of {c : Code} {a : Act} {w : World} (h : c.wp P Q a w) (hn : ∀ c', c ≠ .loop c') : WPm P c Q a w := ⟨h, fun c' e => absurd e (hn c')⟩
end

section
variable {P : Program} {G : Nat} {evOp : OpT} {S : Nat → Bool} {comp : Value → Al → Nat → Al} {ld : TypeId → Value → Al → Option Value} {ora : CallT}
/-- a result's load is one -/
def LdOK (P : Program) (ld : TypeId → Value → Al → Option Value) : Prop := ∀ t p h v, ld t p h = some v → ∀ (ι : Img) (w : World) (p' : Value), VR ι p p' → HR ι w (hp h) → ∃ a v', p' = .pointer (some a) ∧ (loadVar t a).run P w = .ok v' w ∧ VR ι v v'

def Sound (P : Program) (G : Nat) (evC : Option Code → Nat → Code → St → Option (X × St)) : Prop := ∀ (sc : Option Code) (m0 : Nat) (c : Code) (st : St) (x : X) (st' : St), evC sc m0 c st = some (x, st') → G ≤ m0 → m0 ≤ st.next → statC G st.sz c = true → (∀ s, sc = some s → statC G st.sz s = true) →
  st'.sz = st.sz ∧ st.next ≤ st'.next ∧ (∀ b, b ∈ st.dirty → b ∈ st'.dirty) ∧ (∀ b, b ∈ st'.dirty → b ∈ st.dirty ∨ b < m0) ∧
  ∀ (dirty : Nat → Prop) (ι0 : Img) (w0 : World), (∀ b, ι0 b ≠ none → b < m0) → (∀ g, g < G → ι0 g = some (g, big)) → (∀ b, b ∈ st'.dirty → dirty b) →
    ∀ (Q : Exit → Act → World → Prop), (∀ ι a w, Rel m0 dirty ι0 w0 st' ι a w → Q x.out a w) → ∀ ι a w, Rel m0 dirty ι0 w0 st ι a w → match sc with | none => WPm P c Q a w | some s => MidS P s c Q a w

theorem rho_bool {m0 : Nat} {dirty : Nat → Prop} {ι0 : Img} {w0 : World} {st : St} {ι : Img} {a : Act} {w : World} (h : Rel m0 dirty ι0 w0 st ι a w) {c : Operand} {b : Bool} (hb : rho st.T c = .bool b) : a.eval c = .bool b := by
  cases c with
  | tmp t =>
    have := h.tm t
    have hb' : st.T t = .bool b := hb
    rw [hb'] at this
    exact this.plain_eq rfl
  | const v => exact hb
  | global g => cases hb
  | func f => cases hb

theorem sound_region (hmx : P.follows .mixedOrders = true) (hop : OpSound P G evOp) {call : CallT} (hc : CallOK P G call) {m0 : Nat} {id : Nat} {ops : Array Oper} {draw : Bool} {st st' : St} (h : evR evOp call m0 ops draw st = some st') (hG : G ≤ m0) (hm : m0 ≤ st.next) (hs : regOK G st.sz draw ops = true) :
    st'.sz = st.sz ∧ st.next ≤ st'.next ∧ (∀ b, b ∈ st.dirty → b ∈ st'.dirty) ∧ (∀ b, b ∈ st'.dirty → b ∈ st.dirty ∨ b < m0) ∧
    ∀ (dirty : Nat → Prop) (ι0 : Img) (w0 : World), (∀ b, ι0 b ≠ none → b < m0) → (∀ g, g < G → ι0 g = some (g, big)) → (∀ b, b ∈ st'.dirty → dirty b) →
      ∀ (Q : Exit → Act → World → Prop), (∀ ι a w, Rel m0 dirty ι0 w0 st' ι a w → Q .normal a w) → ∀ ι a w, Rel m0 dirty ι0 w0 st ι a w → (Code.region id ops draw).wp P Q a w := by
  unfold evR at h
  cases h1 : evOps evOp call m0 ops ops.toList st with
  | none => rw [h1] at h; cases h
  | some r =>
    obtain ⟨ss, st1⟩ := r
    rw [h1] at h
    simp only [Option.bind_some] at h
    cases hmem : (!draw || memOK (preAll ops.toList []) ss 0 []) with
    | false => rw [hmem] at h; cases h
    | true =>
      rw [hmem] at h
      simp only [cond_true, Option.some.injEq] at h
      subst h
      obtain ⟨r1, -⟩ := regOK_spec hs
      have gl : ∀ (j : Nat) (o : Oper), ops.toList[j]? = some o ↔ ops[j]? = some o := fun j o => by simp
      have hdst : ∀ o ∈ ops.toList, ∀ d, o.dst = some d → d < st.sz ∧ d < 500 := fun o ho d hd => by
        obtain ⟨j, hj, rfl⟩ := List.mem_iff_getElem.1 ho
        exact (r1 j _ ((gl j _).1 (List.getElem?_eq_getElem hj))).2.2 d hd
      obtain ⟨a1, a2, a3, a4, a5, a6, a7, a8, a9⟩ := evOps_spec (m0 := m0) hop hc ops.toList st ss st1 h1 (by omega) (fun o ho d hd => (hdst o ho d hd).2)
      obtain ⟨g, gi⟩ := good_of hop hc h1 (by omega) (draw := draw) (fun e => by rw [e] at hmem; simpa using hmem) hs
      refine ⟨a3, a2, a4, a5, fun dirty ι0 w0 h0 hg hd Q hQ ι a w hrel => ?_⟩
      have hlen := hrel.sz
      have step_of : ∀ (i : Nat) (s : Stp), ss[i]? = some s → ∃ o, ops.toList[i]? = some o := fun i s hi => by
        have : i < ops.toList.length := by rw [← a1]; exact (List.getElem?_eq_some_iff.1 hi).1
        exact ⟨_, List.getElem?_eq_getElem this⟩
      refine wp_region_ev (m0 := m0) (dirty := dirty) (ι0 := ι0) (w0 := w0) g gi hmx hg (fun i s hi b hb hb0 => ?_) hm (ι := ι) (fun t => ?_) (fun i s d hi hsd => ?_) hrel.hr hrel.dom hrel.fr hrel.df fun ι' a' w' h' hf' ha' hN' => hQ ι' a' w' ⟨?_, hN'.trans (hlen.trans a3.symm), ?_, ?_, hf', ha'⟩
      · obtain ⟨o, ho⟩ := step_of i s hi
        obtain ⟨s', sti, b1, b2, b3, b4, b5, -⟩ := a6 i o ho
        rw [hi] at b1
        simp only [Option.some.injEq] at b1
        subst b1
        exact hd b (b5 b hb (h0 b hb0))
      · exact hrel.tm t
      · obtain ⟨o, ho⟩ := step_of i s hi
        obtain ⟨s', sti, b1, b2, -⟩ := a6 i o ho
        rw [hi] at b1
        simp only [Option.some.injEq] at b1
        subst b1
        have := (hdst o (List.mem_of_getElem? ho) d (by rw [← b2.dst]; exact hsd)).1
        rw [hlen]; exact this
      · intro t
        have := h'.tm t
        rw [a8 0 t] at this
        exact this
      · have e : (fun b => blkAt ss 0 (fun _ => true) b (hp st.heap b)) = hp st1.heap := funext fun b => a9 0 b
        rw [← e]; exact h'.hr
      · intro b hb
        rcases h'.dom b hb with q | ⟨i, s, -, q2, q3, q4⟩
        · omega
        · obtain ⟨o, ho⟩ := step_of i s q2
          obtain ⟨s', sti, b1, b2, b3, b4, -⟩ := a6 i o ho
          rw [q2] at b1
          simp only [Option.some.injEq] at b1
          subst b1
          omega

theorem resV_spec (hld : LdOK P ld) {m0 : Nat} {dirty : Nat → Prop} {ι0 : Img} {w0 : World} {st : St} {ι : Img} {a : Act} {w : World} (h : Rel m0 dirty ι0 w0 st ι a w) {fn : Func} {v : Value} (hv : resV ld fn st = some v) :
    ∃ v', (results fn a.tmps).run P w = .ok v' w ∧ VR ι v v' := by
  have key : ∀ (g : ResultVar → Sem Value), (∀ t, g (.tmp t) = pure (a.tmps.getD t undef)) → (∀ x t, g (.cell x t) = (do loadVar t (← asAddr (a.tmps.getD x undef)))) → ∀ (l : List ResultVar) (vs : List Value), resL ld st l = some vs → ∃ vs', (l.mapM g).run P w = .ok vs' w ∧ VRs ι vs vs' := by
    intro g hg hgc l
    induction l with
    | nil => intro vs hvs; simp only [resL, Option.some.injEq] at hvs; subst hvs; exact ⟨[], by rw [List.mapM_nil]; rfl, .nil⟩
    | cons r l ih =>
      intro vs hvs
      have one : ∃ v, resF ld st r = some v ∧ ∃ vs1, resL ld st l = some vs1 ∧ vs = v :: vs1 := by
        simp only [resL] at hvs
        cases h1 : resF ld st r with
        | none => rw [h1] at hvs; cases hvs
        | some v =>
          rw [h1] at hvs
          simp only [Option.bind_some] at hvs
          cases hl : resL ld st l with
          | none => rw [hl] at hvs; cases hvs
          | some vs1 =>
            rw [hl] at hvs
            simp only [Option.map_some, Option.some.injEq] at hvs
            exact ⟨v, rfl, vs1, rfl, hvs.symm⟩
      obtain ⟨v, hv1, vs1, hl, rfl⟩ := one
      obtain ⟨vs', h1, h2⟩ := ih vs1 hl
      cases r with
      | tmp t =>
        simp only [resF, Option.some.injEq] at hv1
        subst hv1
        have ht := h.tm t
        refine ⟨a.tmps.getD t undef :: vs', ?_, .cons ht h2⟩
        rw [List.mapM_cons, hg]
        simp only [Sem.run_bind, Sem.run_pure, Result.andThen_ok, h1]
      | cell x t =>
        have ht := h.tm x
        obtain ⟨ad, v', q1, q2, q3⟩ := hld t _ _ v hv1 ι w _ ht h.hr
        refine ⟨v' :: vs', ?_, .cons q3 h2⟩
        rw [List.mapM_cons, hgc, q1]
        simp only [Sem.run_bind, asAddr, Sem.run_pure, Result.andThen_ok, h1, q2]
  unfold resV at hv
  cases hl : resL ld st fn.results.toList with
  | none => rw [hl] at hv; cases hv
  | some vs =>
    rw [hl] at hv
    simp only [Option.map_some, Option.some.injEq] at hv
    unfold results
    rw [Array.mapM_eq_mapM_toList]
    generalize hg : (fun (r : ResultVar) => (match r with | .tmp t => pure (a.tmps.getD t undef) | .cell x t => do loadVar t (← asAddr (a.tmps.getD x undef)) : Sem Value)) = g
    obtain ⟨vs', h1, h2⟩ := key g (fun t => by rw [← hg]) (fun x t => by rw [← hg]) _ vs hl
    refine ⟨if h : (List.toArray vs').size = 1 then (List.toArray vs')[0] else .tuple (List.toArray vs'), ?_, ?_⟩
    · have e : (Bind.bind (fn.results.toList.mapM g) (fun l => (pure (List.toArray l) : Sem (Array Value)))).run P w = .ok (List.toArray vs') w := by
        simp only [Sem.run_bind, h1, Result.andThen_ok, Sem.run_pure]
      refine (Sem.run_bind ..).trans ?_
      refine (congrArg (fun r => Result.andThen r _) e).trans ?_
      simp only [Result.andThen_ok, Sem.run_pure]
    · cases h2 with
      | nil => subst hv; exact .tuple .nil
      | cons q1 q2 =>
        cases q2 with
        | nil => subst hv; exact q1
        | cons q2 q3 =>
          subst hv
          rw [dif_neg (by simp)]
          exact .tuple (.cons q1 (.cons q2 q3))

theorem callOK_of (hora : CallOK P G ora) (hld : LdOK P ld) (hcomp : ∀ v h n b B, hp (comp v h n) b = some B → hp h b = some B) (hS : ∀ f, S f = true → ∀ fn c, P.funcs[f]? = some fn → fn.body = some c → statC G fn.ntmps c = true) (hN : ∀ f, S f = true → ∀ fn, P.funcs[f]? = some fn → (fn.name == "runtime.NumGoroutine") = false) {ev : Option Code → Nat → Code → St → Option (X × St)} (h : Sound P G ev) :
    CallOK P G (fun f args h n => bif S f && decide (G ≤ n) then
        (match P.funcs[f]? with
        | some fn => match fn.body with
          | some c => bif Nat.blt fn.ntmps args.length || Nat.blt 500 args.length then none else normSt ⟨Tr.ofL args 0 .lf, fn.ntmps, h, n, []⟩ fun st => (ev none n c st).bind fun r => match r.1 with
            | .exit _ => none
            | .goto _ => none
            | _ => (resV ld fn r.2).bind fun v => normR v (comp v r.2.heap n) r.2.next r.2.dirty fun v h n d => some (v, h, n, d)
          | none => none
        | none => none) else ora f args h n) := by
  intro f args hh n v h' n' d he
  dsimp only at he
  cases hf : (S f && decide (G ≤ n)) with
  | false =>
    rw [hf] at he
    exact hora f args hh n v h' n' d he
  | true =>
    rw [hf] at he
    simp only [cond_true] at he
    simp only [Bool.and_eq_true, decide_eq_true_eq] at hf
    obtain ⟨hf, hGn⟩ := hf
    cases hfn : P.funcs[f]? with
    | none => rw [hfn] at he; cases he
    | some fn =>
      rw [hfn] at he
      simp only at he
      cases hb : fn.body with
      | none => rw [hb] at he; cases he
      | some c =>
        rw [hb] at he
        simp only at he
        cases hlt : (Nat.blt fn.ntmps args.length || Nat.blt 500 args.length) with
        | true => rw [hlt] at he; cases he
        | false =>
          rw [hlt] at he
          simp only [cond_false, normSt_eq] at he
          simp only [Bool.or_eq_false_iff] at hlt
          have blt_no : ∀ {a b : Nat}, Nat.blt a b = false → b ≤ a := fun {a b} h => by
            rcases Nat.lt_or_ge a b with q | q
            · have : Nat.blt a b = true := by rw [Nat.blt_eq]; exact q
              rw [this] at h; cases h
            · exact q
          have hle : args.length ≤ fn.ntmps := blt_no hlt.1
          have hle5 : args.length ≤ 500 := blt_no hlt.2
          cases hr : ev none n c ⟨Tr.ofL args 0 .lf, fn.ntmps, hh, n, []⟩ with
          | none => rw [hr] at he; cases he
          | some r =>
            obtain ⟨x, st'⟩ := r
            rw [hr] at he
            simp only [Option.bind_some] at he
            obtain ⟨b1, b2, b3, b4, b5⟩ := h none n c _ x st' hr hGn (Nat.le_refl _) (hS f hf fn c hfn hb) (fun s e => by cases e)
            have main : ∀ v, x ≠ .exit 0 ∨ True → (x = .normal ∨ x = .ret) → resV ld fn st' = some v → v = v → (∃ fn', some fn = some fn' ∧ fn'.body.isNone = false ∧ (fn'.name == "runtime.NumGoroutine") = false) ∧ n ≤ st'.next ∧ (∀ b ∈ st'.dirty, b < n) ∧ ∀ (ι : Img) (w : World) (args' : List Value), VRs ι args args' → HR ι w (hp hh) → (∀ b, ι b ≠ none → b < n) → (∀ g, g < G → ι g = some (g, big)) →
                Calls P f ⟨args'⟩ w fun e w' => ∃ v' ι', e = .returned v' ∧ VR ι' v v' ∧ HR ι' w' (hp (comp v st'.heap n)) ∧ (∀ b, ι' b ≠ none → b < st'.next) ∧ Fr n (· ∈ st'.dirty) ι w ι' w' := by
              intro v _ hx hv _
              refine ⟨⟨fn, rfl, by rw [hb]; rfl, hN f hf fn hfn⟩, b2, fun b hb => (b4 b hb).resolve_left (by simp), fun ι w args' ha hH hdom hg => ?_⟩
              refine calls_of_wp hfn hb ?_
              have hwp := b5 (· ∈ st'.dirty) ι w hdom hg (fun b hb => hb) (bodyPost P fn fun e w' => ∃ v' ι', e = .returned v' ∧ VR ι' v v' ∧ HR ι' w' (hp (comp v st'.heap n)) ∧ (∀ b, ι' b ≠ none → b < st'.next) ∧ Fr n (· ∈ st'.dirty) ι w ι' w') (fun ι' a' w' hrel => ?_) ι
                { tmps := (⟨args'⟩ : Array Value) ++ Array.replicate (fn.ntmps - (⟨args'⟩ : Array Value).size) undef, defers := [] } w ⟨?_, ?_, hH, hdom, Fr.refl _ _ _ _, rfl⟩
              · exact hwp.1
              · obtain ⟨v', q1, q2⟩ := resV_spec (P := P) hld hrel hv
                have : bodyPost P fn (fun e w' => ∃ v' ι', e = .returned v' ∧ VR ι' v v' ∧ HR ι' w' (hp (comp v st'.heap n)) ∧ (∀ b, ι' b ≠ none → b < st'.next) ∧ Fr n (· ∈ st'.dirty) ι w ι' w') .normal a' w' :=
                  ⟨hrel.df, v', q1, v', ι', rfl, q2, hrel.hr.sub (fun b B hB => hcomp _ _ _ _ _ hB), hrel.dom, hrel.fr⟩
                rcases hx with rfl | rfl
                · exact this
                · exact this
              · intro t
                show VR ι ((Tr.ofL args 0 .lf).get t) _
                rw [Tr.get_ofL args 0 .lf t (by omega), Tr.get_lf, arr_getD]
                simp only [Array.toList_append, Array.toList_replicate]
                have hal := ha.length
                by_cases ht : t < args.length
                · rw [if_pos (by omega), Nat.sub_zero]
                  have := ha.getD t
                  have e : (args' ++ List.replicate (fn.ntmps - (⟨args'⟩ : Array Value).size) undef).getD t undef = args'.getD t undef := by
                    simp only [List.getD_eq_getElem?_getD, List.getElem?_append_left (by omega : t < args'.length)]
                  rw [e]; exact this
                · rw [if_neg (by omega)]
                  have e : (args' ++ List.replicate (fn.ntmps - (⟨args'⟩ : Array Value).size) undef).getD t undef = undef := by
                    simp only [List.getD_eq_getElem?_getD, List.getElem?_append_right (by omega : args'.length ≤ t), List.getElem?_replicate]
                    split <;> rfl
                  rw [e]; exact .same rfl
              · have hal := ha.length
                simp only [Array.size_append, Array.size_replicate, List.size_toArray]
                omega
            cases x with
            | exit i => simp at he
            | goto i => simp at he
            | normal =>
              simp only at he
              cases hv : resV ld fn st' with
              | none => rw [hv] at he; cases he
              | some v2 =>
                rw [hv] at he
                simp only [Option.bind_some, normR_eq, Option.some.injEq, Prod.mk.injEq] at he
                obtain ⟨rfl, rfl, rfl, rfl⟩ := he
                exact main _ (.inr trivial) (.inl rfl) hv rfl
            | ret =>
              simp only at he
              cases hv : resV ld fn st' with
              | none => rw [hv] at he; cases he
              | some v2 =>
                rw [hv] at he
                simp only [Option.bind_some, normR_eq, Option.some.injEq, Prod.mk.injEq] at he
                obtain ⟨rfl, rfl, rfl, rfl⟩ := he
                exact main _ (.inr trivial) (.inr rfl) hv rfl

theorem evC_sound (hora : CallOK P G ora) (hld : LdOK P ld) (hmx : P.follows .mixedOrders = true) (hop : OpSound P G evOp) (hcomp : ∀ v h n b B, hp (comp v h n) b = some B → hp h b = some B) (hS : ∀ f, S f = true → ∀ fn c, P.funcs[f]? = some fn → fn.body = some c → statC G fn.ntmps c = true) (hN : ∀ f, S f = true → ∀ fn, P.funcs[f]? = some fn → (fn.name == "runtime.NumGoroutine") = false) :
    ∀ k, Sound P G (evC evOp P G S comp ld ora k) := by
  intro k
  induction k with
  | zero => intro sc m0 c st x st' h; cases h
  | succ k ih =>
    intro sc m0 c st x st' h hG hm hs hsc
    cases sc with
    | some s =>
      simp only [evC] at h
      cases h1 : evC evOp P G S comp ld ora k none m0 c st with
      | none => rw [h1] at h; cases h
      | some r =>
        obtain ⟨x1, st1⟩ := r
        rw [h1] at h
        simp only [Option.bind_some] at h
        obtain ⟨a1, a2, a3, a4, a5⟩ := ih none m0 c st x1 st1 h1 hG hm hs (fun s e => by cases e)
        have out : (∀ l, x1 ≠ .goto l) → st' = st1 → x = x1 → st'.sz = st.sz ∧ st.next ≤ st'.next ∧ (∀ b, b ∈ st.dirty → b ∈ st'.dirty) ∧ (∀ b, b ∈ st'.dirty → b ∈ st.dirty ∨ b < m0) ∧
            ∀ (dirty : Nat → Prop) (ι0 : Img) (w0 : World), (∀ b, ι0 b ≠ none → b < m0) → (∀ g, g < G → ι0 g = some (g, big)) → (∀ b, b ∈ st'.dirty → dirty b) →
              ∀ (Q : Exit → Act → World → Prop), (∀ ι a w, Rel m0 dirty ι0 w0 st' ι a w → Q x.out a w) → ∀ ι a w, Rel m0 dirty ι0 w0 st ι a w → MidS P s c Q a w := by
          rintro hno rfl rfl
          refine ⟨a1, a2, a3, a4, fun dirty ι0 w0 h0 hg hd Q hQ ι a w hrel => MidS.of (a5 dirty ι0 w0 h0 hg hd (jumpS P s Q) (fun ι' a' w' h' => ?_) ι a w hrel).1⟩
          have := hQ ι' a' w' h'
          cases x with
          | goto l => exact absurd rfl (hno l)
          | normal => exact this
          | exit i => exact this
          | ret => exact this
        cases x1 with
        | goto l =>
          simp only at h
          cases hf : findLabel s l with
          | some rest =>
            rw [hf] at h
            simp only at h
            obtain ⟨b1, b2, b3, b4, b5⟩ := ih (some s) m0 rest st1 x st' h hG (by omega) (by rw [a1]; exact statC_find (hsc s rfl) hf) (fun s' e => by cases e; rw [a1]; exact hsc s rfl)
            refine ⟨b1.trans a1, by omega, fun b hb => b3 b (a3 b hb), fun b hb => (b4 b hb).elim (fun q => a4 b q) .inr, fun dirty ι0 w0 h0 hg hd Q hQ ι a w hrel => MidS.of ?_⟩
            refine (a5 dirty ι0 w0 h0 hg (fun b hb => hd b (b3 b hb)) (jumpS P s Q) (fun ι' a' w' h' => ?_) ι a w hrel).1
            show jumpS P s Q (.goto l) a' w'
            simp only [jumpS, hf]
            exact b5 dirty ι0 w0 h0 hg hd Q hQ ι' a' w' h'
          | none =>
            rw [hf] at h
            simp only [Option.some.injEq, Prod.mk.injEq] at h
            obtain ⟨rfl, rfl⟩ := h
            refine ⟨a1, a2, a3, a4, fun dirty ι0 w0 h0 hg hd Q hQ ι a w hrel => MidS.of (a5 dirty ι0 w0 h0 hg hd (jumpS P s Q) (fun ι' a' w' h' => ?_) ι a w hrel).1⟩
            show jumpS P s Q (.goto l) a' w'
            simp only [jumpS, hf]
            exact hQ ι' a' w' h'
        | normal =>
          simp only [Option.some.injEq, Prod.mk.injEq] at h
          exact out (fun l e => by cases e) h.2.symm h.1.symm
        | exit i =>
          simp only [Option.some.injEq, Prod.mk.injEq] at h
          exact out (fun l e => by cases e) h.2.symm h.1.symm
        | ret =>
          simp only [Option.some.injEq, Prod.mk.injEq] at h
          exact out (fun l e => by cases e) h.2.symm h.1.symm
    | none =>
    cases c with
    | skip =>
      simp only [evC, Option.some.injEq, Prod.mk.injEq] at h
      obtain ⟨rfl, rfl⟩ := h
      exact ⟨rfl, Nat.le_refl _, fun _ h => h, fun _ h => .inl h, fun dirty ι0 w0 h0 hg hd Q hQ ι a w hr => WPm.of (wp_skip (hQ ι a w hr)) (by simp)⟩
    | label l =>
      simp only [evC, Option.some.injEq, Prod.mk.injEq] at h
      obtain ⟨rfl, rfl⟩ := h
      exact ⟨rfl, Nat.le_refl _, fun _ h => h, fun _ h => .inl h, fun dirty ι0 w0 h0 hg hd Q hQ ι a w hr => WPm.of (wp_label (hQ ι a w hr)) (by simp)⟩
    | exit id =>
      simp only [evC, Option.some.injEq, Prod.mk.injEq] at h
      obtain ⟨rfl, rfl⟩ := h
      exact ⟨rfl, Nat.le_refl _, fun _ h => h, fun _ h => .inl h, fun dirty ι0 w0 h0 hg hd Q hQ ι a w hr => WPm.of (wp_exit (hQ ι a w hr)) (by simp)⟩
    | ret =>
      simp only [evC, Option.some.injEq, Prod.mk.injEq] at h
      obtain ⟨rfl, rfl⟩ := h
      exact ⟨rfl, Nat.le_refl _, fun _ h => h, fun _ h => .inl h, fun dirty ι0 w0 h0 hg hd Q hQ ι a w hr => WPm.of (wp_ret (hQ ι a w hr)) (by simp)⟩
    | goto l =>
      simp only [evC, Option.some.injEq, Prod.mk.injEq] at h
      obtain ⟨rfl, rfl⟩ := h
      exact ⟨rfl, Nat.le_refl _, fun _ h => h, fun _ h => .inl h, fun dirty ι0 w0 h0 hg hd Q hQ ι a w hr => WPm.of (wp_goto (hQ ι a w hr)) (by simp)⟩
    | scope c =>
      simp only [evC] at h
      obtain ⟨a1, a2, a3, a4, a5⟩ := ih (some c) m0 c st x st' h hG hm hs (fun s e => by cases e; exact hs)
      exact ⟨a1, a2, a3, a4, fun dirty ι0 w0 h0 hg hd Q hQ ι a w hrel => WPm.of (MidS.scope (a5 dirty ι0 w0 h0 hg hd Q hQ ι a w hrel)) (by simp)⟩
    | refuse w => cases h
    | rangeFunc f ps as b => cases h
    | region id ops draw =>
      simp only [evC] at h
      generalize hcall : (fun (f : FuncId) (args : List Value) (h : Al) (n : Nat) => bif S f && decide (G ≤ n) then
        (match P.funcs[f]? with
        | some fn => match fn.body with
          | some c => bif Nat.blt fn.ntmps args.length || Nat.blt 500 args.length then none else normSt ⟨Tr.ofL args 0 .lf, fn.ntmps, h, n, []⟩ fun st => (evC evOp P G S comp ld ora k none n c st).bind fun r => match r.1 with
            | .exit _ => none
            | .goto _ => none
            | _ => (resV ld fn r.2).bind fun v => normR v (comp v r.2.heap n) r.2.next r.2.dirty fun v h n d => some (v, h, n, d)
          | none => none
        | none => none) else ora f args h n) = call at h
      have hc : CallOK P G call := by rw [← hcall]; exact callOK_of hora hld hcomp hS hN ih
      cases hr : evR evOp call m0 ops draw st with
      | none => rw [hr] at h; cases h
      | some st1 =>
        rw [hr] at h
        simp only [Option.map_some, Option.some.injEq, Prod.mk.injEq] at h
        obtain ⟨rfl, rfl⟩ := h
        obtain ⟨b1, b2, b3, b4, b5⟩ := sound_region (id := id) (draw := draw) hmx hop hc hr hG hm hs
        exact ⟨b1, b2, b3, b4, fun dirty ι0 w0 h0 hg hd Q hQ ι a w hrel => WPm.of (b5 dirty ι0 w0 h0 hg hd Q hQ ι a w hrel) (by simp)⟩
    | cond c t e =>
      simp only [evC] at h
      split at h
      · rename_i b hb
        simp only [statC, Bool.and_eq_true] at hs
        obtain ⟨b1, b2, b3, b4, b5⟩ := ih none m0 (bif b then t else e) st x st' h hG hm (by cases b; exact hs.2; exact hs.1) (fun s e => by cases e)
        refine ⟨b1, b2, b3, b4, fun dirty ι0 w0 h0 hg hd Q hQ ι a w hrel => WPm.of (wp_cond (rho_bool hrel hb) ?_) (by simp)⟩
        have := (b5 dirty ι0 w0 h0 hg hd Q hQ ι a w hrel).1
        cases b <;> exact this
      · cases h
    | seq p q =>
      simp only [evC] at h
      simp only [statC, Bool.and_eq_true] at hs
      cases h1 : evC evOp P G S comp ld ora k none m0 p st with
      | none => rw [h1] at h; cases h
      | some r =>
        obtain ⟨x1, st1⟩ := r
        rw [h1] at h
        simp only [Option.bind_some] at h
        obtain ⟨a1, a2, a3, a4, a5⟩ := ih none m0 p st x1 st1 h1 hG hm hs.1 (fun s e => by cases e)
        cases x1 with
        | normal =>
          simp only at h
          obtain ⟨b1, b2, b3, b4, b5⟩ := ih none m0 q st1 x st' h hG (by omega) (by rw [a1]; exact hs.2) (fun s e => by cases e)
          refine ⟨b1.trans a1, by omega, fun b hb => b3 b (a3 b hb), fun b hb => (b4 b hb).elim (fun q => a4 b q) .inr, fun dirty ι0 w0 h0 hg hd Q hQ ι a w hrel => WPm.of (wp_seq ?_) (by simp)⟩
          exact (a5 dirty ι0 w0 h0 hg (fun b hb => hd b (b3 b hb)) (Exit.then (q.wp P Q) Q) (fun ι' a' w' h' => (b5 dirty ι0 w0 h0 hg hd Q hQ ι' a' w' h').1) ι a w hrel).1
        | exit i =>
          simp only [Option.some.injEq, Prod.mk.injEq] at h
          obtain ⟨rfl, rfl⟩ := h
          exact ⟨a1, a2, a3, a4, fun dirty ι0 w0 h0 hg hd Q hQ ι a w hrel => WPm.of (wp_seq (a5 dirty ι0 w0 h0 hg hd (Exit.then (q.wp P Q) Q) (fun ι' a' w' h' => hQ ι' a' w' h') ι a w hrel).1) (by simp)⟩
        | goto i =>
          simp only [Option.some.injEq, Prod.mk.injEq] at h
          obtain ⟨rfl, rfl⟩ := h
          exact ⟨a1, a2, a3, a4, fun dirty ι0 w0 h0 hg hd Q hQ ι a w hrel => WPm.of (wp_seq (a5 dirty ι0 w0 h0 hg hd (Exit.then (q.wp P Q) Q) (fun ι' a' w' h' => hQ ι' a' w' h') ι a w hrel).1) (by simp)⟩
        | ret =>
          simp only [Option.some.injEq, Prod.mk.injEq] at h
          obtain ⟨rfl, rfl⟩ := h
          exact ⟨a1, a2, a3, a4, fun dirty ι0 w0 h0 hg hd Q hQ ι a w hrel => WPm.of (wp_seq (a5 dirty ι0 w0 h0 hg hd (Exit.then (q.wp P Q) Q) (fun ι' a' w' h' => hQ ι' a' w' h') ι a w hrel).1) (by simp)⟩
    | block id p =>
      simp only [evC] at h
      cases h1 : evC evOp P G S comp ld ora k none m0 p st with
      | none => rw [h1] at h; cases h
      | some r =>
        obtain ⟨x1, st1⟩ := r
        rw [h1] at h
        simp only [Option.bind_some] at h
        obtain ⟨a1, a2, a3, a4, a5⟩ := ih none m0 p st x1 st1 h1 hG hm hs (fun s e => by cases e)
        cases x1 with
        | normal =>
          simp only [Option.some.injEq, Prod.mk.injEq] at h
          obtain ⟨rfl, rfl⟩ := h
          exact ⟨a1, a2, a3, a4, fun dirty ι0 w0 h0 hg hd Q hQ ι a w hrel => WPm.of (wp_block (a5 dirty ι0 w0 h0 hg hd (Exit.inBlock id Q) (fun ι' a' w' h' => hQ ι' a' w' h') ι a w hrel).1) (by simp)⟩
        | exit i =>
          simp only [Option.some.injEq, Prod.mk.injEq] at h
          obtain ⟨rfl, rfl⟩ := h
          refine ⟨a1, a2, a3, a4, fun dirty ι0 w0 h0 hg hd Q hQ ι a w hrel => WPm.of (wp_block (a5 dirty ι0 w0 h0 hg hd (Exit.inBlock id Q) (fun ι' a' w' h' => ?_) ι a w hrel).1) (by simp)⟩
          have := hQ ι' a' w' h'
          show (if i = id then Q .normal a' w' else Q (.exit i) a' w')
          by_cases e : i = id
          · subst e; rw [if_pos rfl]; simpa [X.out] using this
          · rw [if_neg e]
            have e' : (i == id) = false := by simpa using e
            rw [e'] at this; exact this
        | ret =>
          simp only [Option.some.injEq, Prod.mk.injEq] at h
          obtain ⟨rfl, rfl⟩ := h
          exact ⟨a1, a2, a3, a4, fun dirty ι0 w0 h0 hg hd Q hQ ι a w hrel => WPm.of (wp_block (a5 dirty ι0 w0 h0 hg hd (Exit.inBlock id Q) (fun ι' a' w' h' => hQ ι' a' w' h') ι a w hrel).1) (by simp)⟩
        | goto i =>
          simp only [Option.some.injEq, Prod.mk.injEq] at h
          obtain ⟨rfl, rfl⟩ := h
          exact ⟨a1, a2, a3, a4, fun dirty ι0 w0 h0 hg hd Q hQ ι a w hrel => WPm.of (wp_block (a5 dirty ι0 w0 h0 hg hd (Exit.inBlock id Q) (fun ι' a' w' h' => hQ ι' a' w' h') ι a w hrel).1) (by simp)⟩
    | loop p =>
      simp only [evC, normSt_eq] at h
      cases h1 : evC evOp P G S comp ld ora k none m0 p st with
      | none => rw [h1] at h; cases h
      | some r =>
        obtain ⟨x1, st1⟩ := r
        rw [h1] at h
        simp only [Option.bind_some] at h
        obtain ⟨a1, a2, a3, a4, a5⟩ := ih none m0 p st x1 st1 h1 hG hm hs (fun s e => by cases e)
        have fin : ∀ {a : Act} {w : World} {Q : Exit → Act → World → Prop}, Mid P p Q a w → WPm P (.loop p) Q a w := fun h => ⟨h.loop, fun c' e => by cases e; exact h⟩
        cases x1 with
        | normal =>
          simp only at h
          obtain ⟨b1, b2, b3, b4, b5⟩ := ih none m0 (.loop p) st1 x st' h hG (by omega) (by rw [a1]; exact hs) (fun s e => by cases e)
          refine ⟨b1.trans a1, by omega, fun b hb => b3 b (a3 b hb), fun b hb => (b4 b hb).elim (fun q => a4 b q) .inr, fun dirty ι0 w0 h0 hg hd Q hQ ι a w hrel => fin (Mid.of ?_)⟩
          exact (a5 dirty ι0 w0 h0 hg (fun b hb => hd b (b3 b hb)) (Exit.then (Mid P p Q) Q) (fun ι' a' w' h' => (b5 dirty ι0 w0 h0 hg hd Q hQ ι' a' w' h').2 p rfl) ι a w hrel).1
        | exit i =>
          simp only [Option.some.injEq, Prod.mk.injEq] at h
          obtain ⟨rfl, rfl⟩ := h
          exact ⟨a1, a2, a3, a4, fun dirty ι0 w0 h0 hg hd Q hQ ι a w hrel => fin (Mid.of (a5 dirty ι0 w0 h0 hg hd (Exit.then (Mid P p Q) Q) (fun ι' a' w' h' => hQ ι' a' w' h') ι a w hrel).1)⟩
        | goto i =>
          simp only [Option.some.injEq, Prod.mk.injEq] at h
          obtain ⟨rfl, rfl⟩ := h
          exact ⟨a1, a2, a3, a4, fun dirty ι0 w0 h0 hg hd Q hQ ι a w hrel => fin (Mid.of (a5 dirty ι0 w0 h0 hg hd (Exit.then (Mid P p Q) Q) (fun ι' a' w' h' => hQ ι' a' w' h') ι a w hrel).1)⟩
        | ret =>
          simp only [Option.some.injEq, Prod.mk.injEq] at h
          obtain ⟨rfl, rfl⟩ := h
          exact ⟨a1, a2, a3, a4, fun dirty ι0 w0 h0 hg hd Q hQ ι a w hrel => fin (Mid.of (a5 dirty ι0 w0 h0 hg hd (Exit.then (Mid P p Q) Q) (fun ι' a' w' h' => hQ ι' a' w' h') ι a w hrel).1)⟩
end
end Go.Ev
