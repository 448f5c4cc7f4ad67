/-
  Evaluation of calls, part 13: all operations together; a call without arguments. No program in sight.
-/
import Derived.Test.YtelnnjofccldgaaGreatDoorEvK
import Derived.Below
namespace Go.Ev
open Go Go.RowKit
section
variable {P : Program} {G : Nat}

def orE (a b : Option Eff) : Option Eff := match a with | some x => some x | none => b
def evOp (P : Program) (G : Nat) : OpT := fun call o T h n =>
  match o.op with
  | .move x => some ⟨rho T x, [], [], n, n⟩
  | .assign x => some ⟨rho T x, [], [], n, n⟩
  | .pick c a b => match rho T c with | .bool t => some ⟨bif t then rho T a else rho T b, [], [], n, n⟩ | _ => none
  | .alloc e => evAlloc P e n
  | .box e x => some ⟨.pointer (some ⟨n, 0, none⟩), [], [(n, some (.row (rho T x).cells.toList e 0 true))], n, n + 1⟩
  | .build t ps => evBuild P t (ps.toList.map fun p => (p.1, rho T p.2)) n
  | .buildSlice t len ps => evBuildSlice P t len (ps.toList.map fun p => (p.1, rho T p.2)) n
  | .load t x => evLoad P t (rho T x) (hp h) n
  | .store t p x => evStore P t (rho T p) (rho T x) (hp h) n
  | .binOp op t x y _ => orE (evPure P o (rho T) n) (evNil P op t (rho T x) (rho T y) n)
  | .makeFunc (.func f) fst cap => bif fst.isEmpty then some ⟨.func (.func f) #[] ⟨cap.toList.map (rho T)⟩, [], [], n, n⟩ else none
  | .makeSlice t l c => evMakeSlice P t (rho T l) (rho T c) n
  | .slice t x lo hi none => orE (evPure P o (rho T) n) (evSlice P t (rho T) x lo hi (hp h) n)
  | .fieldAddr s x f => evFieldAddr P s (rho T x) f n
  | .field t x i => evField P t (rho T x) i n
  | .indexAddr t x i => evIndexAddr P t (rho T x) (rho T i) n
  | .extract t i => match rho T t with
    | .tuple vs => match vs.toList[i]? with | some v => some ⟨v, [], [], n, n⟩ | none => none
    | _ => none
  | .call c => match c.callee with
    | .value f => orE (evCall G call (rho T f) (c.args.toList.map (rho T)) (hp h) n) (evPure P o (rho T) n)
    | .builtin .append => match c.args.toList, c.argTypes.toList with
      | [s, x], [t, tx] => evAppend P t tx (rho T s) (rho T x) (hp h) n
      | _, _ => none
    | .builtin .len => orE (evPure P o (rho T) n) (match c.args.toList with | [x] => evLen P c.argTypes (rho T x) n | _ => none)
    | .builtin .copy => match c.args.toList, c.argTypes.toList with
      | [d, s], [t, _] => evCopy P t (rho T d) (rho T s) (hp h) n
      | _, _ => none
    | .builtin _ => evPure P o (rho T) n
    | _ => none
  | .nilCheck x => evNilCheck (rho T x) n
  | .makeMap _ none => some ⟨.map (some n), [], [(n, some (.map [] [] [] 0))], n, n + 1⟩
  | .lookup t x k ok => orE (evPure P o (rho T) n) (evLookup P t (rho T x) (rho T k) ok (hp h) n)
  | .mapUpdate t m k x => evMapUpdate P t (rho T m) (rho T k) (rho T x) (hp h) n
  | .insert t m k x => evMapUpdate P t (rho T m) (rho T k) (rho T x) (hp h) n
  | .mapEntry t m k => evMapEntry P t (rho T m) (rho T k) (hp h) n
  | .entryStore _ m s x => evEntryStore (rho T m) (rho T s) (rho T x) (hp h) n
  | .unOp _ _ _ => evPure P o (rho T) n
  | .convert _ _ _ => evPure P o (rho T) n
  | .index _ _ _ => evPure P o (rho T) n
  | _ => none

theorem evOp_sound : OpSound P G (evOp P G) := by
  intro call hc o T h n E he _
  unfold evOp at he
  split at he
  · rename_i x ho
    simp only [Option.some.injEq] at he
    subst he
    exact ⟨ok_move (.inl ho), rfl, Nat.le_refl _⟩
  · rename_i x ho
    simp only [Option.some.injEq] at he
    subst he
    exact ⟨ok_move (.inr ho), rfl, Nat.le_refl _⟩
  · rename_i c a b ho
    split at he
    · rename_i t ht
      simp only [Option.some.injEq] at he
      subst he
      exact ⟨ok_pick ho ht, rfl, Nat.le_refl _⟩
    · cases he
  · rename_i e ho
    exact evAlloc_ok ho he
  · rename_i e x ho
    simp only [Option.some.injEq] at he
    subst he
    exact ⟨ok_box ho, rfl, Nat.le_succ _⟩
  · rename_i t ps ho
    exact evBuild_ok ho he
  · rename_i t len ps ho
    exact evBuildSlice_ok ho he
  · rename_i t x ho
    exact evLoad_ok ho he
  · rename_i t p x ho
    exact evStore_ok ho he
  · rename_i op t x y ty ho
    unfold orE at he
    split at he
    · rename_i E' hE
      simp only [Option.some.injEq] at he
      subst he
      exact evPure_ok hE
    · exact evNil_ok ho he
  · rename_i f fst cap ho
    cases hf : fst.isEmpty with
    | false => rw [hf] at he; cases he
    | true =>
      rw [hf] at he
      simp only [cond_true, Option.some.injEq] at he
      subst he
      have : fst = #[] := by simpa using hf
      subst this
      exact ⟨ok_makeFunc ho, rfl, Nat.le_refl _⟩
  · rename_i t l c ho
    exact evMakeSlice_ok ho he
  · rename_i t x lo hi ho
    unfold orE at he
    split at he
    · rename_i E' hE
      simp only [Option.some.injEq] at he
      subst he
      exact evPure_ok hE
    · exact evSlice_ok ho he
  · rename_i s x f ho
    exact evFieldAddr_ok ho he
  · rename_i t x i ho
    exact evField_ok ho he
  · rename_i t x i ho
    exact evIndexAddr_ok ho he
  · rename_i t i ho
    split at he
    · rename_i vs ht
      split at he
      · rename_i v hv
        simp only [Option.some.injEq] at he
        subst he
        exact ⟨ok_extract (vs := vs.toList) ho ht hv, rfl, Nat.le_refl _⟩
      · cases he
    · cases he
  · rename_i c ho
    split at he
    · rename_i f hcal
      unfold orE at he
      split at he
      · rename_i E' hE
        simp only [Option.some.injEq] at he
        subst he
        exact evCall_ok hc ho hcal hE
      · exact evPure_ok he
    · rename_i hcal
      split at he
      · rename_i s x t tx h1 h2
        refine evAppend_ok (s := s) (x := x) (t := t) (tx := tx) ?_ he
        rw [ho]
        obtain ⟨cal, args, ats⟩ := c
        simp only at hcal h1 h2
        subst hcal
        have e1 : args = #[s, x] := Array.ext' h1
        have e2 : ats = #[t, tx] := Array.ext' h2
        rw [e1, e2]
      · cases he
    · rename_i hcal
      unfold orE at he
      split at he
      · rename_i E' hE
        simp only [Option.some.injEq] at he
        subst he
        exact evPure_ok hE
      · split at he
        · rename_i x h1
          refine evLen_ok (x := x) (ts := c.argTypes) ?_ he
          rw [ho]
          obtain ⟨cal, args, ats⟩ := c
          simp only at hcal h1
          subst hcal
          have e1 : args = #[x] := Array.ext' h1
          rw [e1]
        · cases he
    · rename_i hcal
      split at he
      · rename_i d s t t2 h1 h2
        refine evCopy_ok (d := d) (s := s) (t := t) (t2 := t2) ?_ he
        rw [ho]
        obtain ⟨cal, args, ats⟩ := c
        simp only at hcal h1 h2
        subst hcal
        have e1 : args = #[d, s] := Array.ext' h1
        have e2 : ats = #[t, t2] := Array.ext' h2
        rw [e1, e2]
      · cases he
    · exact evPure_ok he
    · cases he
  · rename_i x ho
    exact evNilCheck_ok ho he
  · rename_i t ho
    simp only [Option.some.injEq] at he
    subst he
    exact ⟨ok_makeMap ho, rfl, Nat.le_succ _⟩
  · rename_i t x k ok ho
    unfold orE at he
    split at he
    · rename_i E' hE
      simp only [Option.some.injEq] at he
      subst he
      exact evPure_ok hE
    · exact evLookup_ok ho he
  · rename_i t m k x ho
    exact evMapUpdate_ok (.inl ho) he
  · rename_i t m k x ho
    exact evMapUpdate_ok (.inr ho) he
  · rename_i t m k ho
    exact evMapEntry_ok ho he
  · rename_i t m s x ho
    exact evEntryStore_ok ho he
  · exact evPure_ok he
  · exact evPure_ok he
  · exact evPure_ok he
  · cases he

/-- what is still looked at behind a call -/
def comp (v : Value) (h : Al) (n : Nat) : Al :=
  ((reach (hp h) 4000 (idsV 4 v ++ (keys h).filter fun b => Nat.blt b n) []).filter fun b => (hp h b).isSome).map fun b => (b, hp h b)
theorem comp_ok : ∀ v h n b B, hp (comp v h n) b = some B → hp h b = some B := by
  intro v h n b B hB
  have e : hp (comp v h n) b = (look (comp v h n) b).join := rfl
  rw [e] at hB
  cases hl : look (comp v h n) b with
  | none => rw [hl] at hB; cases hB
  | some x =>
    rw [hl] at hB
    obtain ⟨-, q⟩ := look_map (hp h) _ _ _ hl
    subst q
    simpa using hB

def ldV (P : Program) (t : TypeId) (p : Value) (h : Al) : Option Value := (evLoad P t p (hp h) 0).map (·.out)
theorem ldV_ok : LdOK P (ldV P) := by
  intro t p h v hv ι w p' hp' hH
  unfold ldV at hv
  cases he : evLoad P t p (hp h) 0 with
  | none => rw [he] at hv; cases hv
  | some E =>
    rw [he] at hv
    simp only [Option.map_some, Option.some.injEq] at hv
    subst hv
    unfold evLoad at he
    split at he
    · rename_i b off
      split at he
      · rename_i cs e sz ex hs
        obtain ⟨k', c, rfl, hi⟩ := hp'.ptr_inv
        obtain ⟨k2, c2, e1, A, q1, q2, q3, -⟩ := hH.at_ b _ hs
        rw [hi] at e1
        simp only [Option.some.injEq, Prod.mk.injEq] at e1
        obtain ⟨rfl, rfl⟩ := e1
        split at he
        · rename_i hg
          split at he
          · rename_i k hk
            cases hb : Nat.beq ((cs.drop off).take k).length k with
            | false => simp only [hb, cond_false] at he; cases he
            | true =>
              simp only [hb, cond_true, Option.some.injEq] at he
              subst he
              have hm := Nat.eq_of_beq_eq_true hb
              obtain ⟨r1, r2, r3⟩ := seg_cells q1 q2 q3 hm
              have hl := run_loadCells_list (P := P) w ⟨k', off, none⟩ ((A.drop off).take k) (fun j v hj => by rw [add_eq]; exact r3 j v hj)
              rw [r2] at hl
              refine ⟨_, .agg ⟨(A.drop off).take k⟩, rfl, ?_, .agg r1⟩
              simp only [loadVar, Sem.run_bind, Sem.run_pure, Result.andThen_ok, pureRun_run hg w, if_true, pureRun_run hk w, hl]
          · cases he
        · rename_i hg
          split at he
          · rename_i v hv0
            simp only [Option.some.injEq] at he
            subst he
            obtain ⟨v', h1, h2⟩ := q3.at off hv0
            have hcell : w.cell? ⟨k', off, none⟩ = some v' := by
              rw [cell_of q1]
              rw [List.getElem?_take] at h1
              split at h1
              · exact h1
              · cases h1
            refine ⟨_, v', rfl, ?_, h2⟩
            simp only [loadVar, Sem.run_bind, Result.andThen_ok, pureRun_run hg w, Bool.false_eq_true, if_false, run_load, hcell]
          · cases he
        · cases he
      · cases he
    · cases he

/-- the call's evaluation -/
noncomputable def evF (P : Program) (G : Nat) (S : Nat → Bool) (ora : CallT) (k : Nat) : CallT := fun f args h n => bif S f && decide (G ≤ n) then
  (match P.funcs[f]? with
  | some fn => match fn.body with
    | some c => bif Nat.blt fn.ntmps args.length || Nat.blt 500 args.length then none else normSt ⟨Tr.ofL args 0 .lf, fn.ntmps, h, n, []⟩ fun st => (evC (evOp P G) P G S comp (ldV P) ora k none n c st).bind fun r => match r.1 with
      | .exit _ => none
      | .goto _ => none
      | _ => (resV (ldV P) fn r.2).bind fun v => normR v (comp v r.2.heap n) r.2.next r.2.dirty fun v h n d => some (v, h, n, d)
    | none => none
  | none => none) else ora f args h n
def statF (P : Program) (G : Nat) (f : Nat) : Bool :=
  match P.funcs[f]? with
  | some fn => (match fn.body with | some c => statC G fn.ntmps c | none => true) && !(fn.name == "runtime.NumGoroutine")
  | none => true
theorem evF_ok {S : Nat → Bool} {ora : CallT} {k : Nat} (hora : CallOK P G ora) (hmx : P.follows .mixedOrders = true) (hS : ∀ f, S f = true → statF P G f = true) : CallOK P G (evF P G S ora k) := by
  have h1 : ∀ f, S f = true → ∀ fn c, P.funcs[f]? = some fn → fn.body = some c → statC G fn.ntmps c = true := fun f hf fn c e1 e2 => by
    have := hS f hf
    unfold statF at this
    rw [e1] at this
    simp only [e2, Bool.and_eq_true] at this
    exact this.1
  have h2 : ∀ f, S f = true → ∀ fn, P.funcs[f]? = some fn → (fn.name == "runtime.NumGoroutine") = false := fun f hf fn e1 => by
    have := hS f hf
    unfold statF at this
    rw [e1] at this
    simp only [Bool.and_eq_true, Bool.not_eq_true'] at this
    exact this.2
  exact callOK_of hora ldV_ok comp_ok h1 h2 (evC_sound hora ldV_ok hmx evOp_sound comp_ok h1 h2 k)
def okB (b : Bool) (r : Option (Value × Al × Nat × List Nat)) : Bool := match r with | some (.bool c, _, _, d) => d.isEmpty && (c == b) | _ => false
/-- a call without arguments, evaluated -/
theorem ev_call {S : Nat → Bool} {ora : CallT} {k f : Nat} (hora : CallOK P G ora) (hmx : P.follows .mixedOrders = true) (hS : ∀ f, S f = true → statF P G f = true) (b : Bool) (h : okB b (evF P G S ora k f [] [] G) = true) (w : World) :
    Calls P f #[] w fun e w' => e = .returned (.bool b) ∧ Below w.heap.size w w' := by
  unfold okB at h
  split at h
  · rename_i c h' n' d he
    simp only [Bool.and_eq_true, List.isEmpty_iff, beq_iff_eq] at h
    obtain ⟨rfl, rfl⟩ := h
    obtain ⟨-, -, -, h3⟩ := evF_ok hora hmx hS f [] [] G (.bool c) h' n' [] he
    refine (h3 (fun b => if b < G then some (b, big) else none) w [] .nil ⟨fun b B e => by simp [hp, look] at e, fun b b' B B' k c c' e => by simp [hp, look] at e⟩ (fun b hb => ?_) (fun g hg => by simp [hg])).mono fun e w' hq => ?_
    · by_cases q : b < G
      · exact q
      · simp [q] at hb
    · obtain ⟨v', ι', rfl, p1, -, -, p4⟩ := hq
      have := p1.plain_eq rfl
      subst this
      exact ⟨rfl, p4.rest.1, p4.rest.2.1, p4.rest.2.2, p4.size, fun k hk => p4.frame k hk fun b c hb => by cases hb⟩
  · cases h
/-- a call with plain arguments and a plain result, evaluated once -/
theorem ev_free {S : Nat → Bool} {ora : CallT} {k f : Nat} (hora : CallOK P G ora) (hmx : P.follows .mixedOrders = true) (hS : ∀ f, S f = true → statF P G f = true) {args : List Value} (ha : args.all plain = true) {v : Value} (hv : plain v = true)
    (h : ∃ h' n', evF P G S ora k f args [] G = some (v, h', n', [])) :
    (∃ fn, P.funcs[f]? = some fn ∧ fn.body.isNone = false ∧ (fn.name == "runtime.NumGoroutine") = false) ∧ ∀ w : World, Calls P f ⟨args⟩ w fun e w' => e = .returned v ∧ Below w.heap.size w w' := by
  obtain ⟨h', n', he⟩ := h
  obtain ⟨h1, -, -, h3⟩ := evF_ok hora hmx hS f args [] G v h' n' [] he
  refine ⟨h1, fun w => ?_⟩
  refine (h3 (fun b => if b < G then some (b, big) else none) w args ?_ ⟨fun b B e => by simp [hp, look] at e, fun b b' B B' k c c' e => by simp [hp, look] at e⟩ (fun b hb => ?_) (fun g hg => by simp [hg])).mono fun e w' hq => ?_
  · have : ∀ l : List Value, l.all plain = true → VRs (fun b => if b < G then some (b, big) else none) l l := by
      intro l
      induction l with
      | nil => intro _; exact .nil
      | cons x l ih =>
        intro h
        simp only [List.all_cons, Bool.and_eq_true] at h
        exact .cons (.same h.1) (ih h.2)
    exact this args ha
  · by_cases q : b < G
    · exact q
    · simp [q] at hb
  · obtain ⟨v', ι', rfl, p1, -, -, p4⟩ := hq
    rw [p1.plain_eq hv]
    exact ⟨rfl, p4.rest.1, p4.rest.2.1, p4.rest.2.2, p4.size, fun k hk => p4.frame k hk fun b c hb => by cases hb⟩
theorem plains_eq {ι : Img} : ∀ {l l' : List Value}, VRs ι l l' → l.all plain = true → l' = l
  | _, _, .nil, _ => rfl
  | _, _, .cons a k, h => by
    simp only [List.all_cons, Bool.and_eq_true] at h
    rw [a.plain_eq h.1, plains_eq k h.2]
/-- such a call, known to the evaluator -/
def oraC (test : FuncId → List Value → Bool) (v : Value) : CallT := fun f args h n => bif test f args then some (v, h, n, []) else none
theorem oraC_ok {test : FuncId → List Value → Bool} {v : Value} (hv : plain v = true) (h : ∀ f args, test f args = true → args.all plain = true ∧ (∃ fn, P.funcs[f]? = some fn ∧ fn.body.isNone = false ∧ (fn.name == "runtime.NumGoroutine") = false) ∧ ∀ w : World, Calls P f ⟨args⟩ w fun e w' => e = .returned v ∧ Below w.heap.size w w') :
    CallOK P G (oraC test v) := by
  intro f args hh n v' h' n' d he
  unfold oraC at he
  cases ht : test f args with
  | false => rw [ht] at he; cases he
  | true =>
    rw [ht] at he
    simp only [cond_true, Option.some.injEq, Prod.mk.injEq] at he
    obtain ⟨rfl, rfl, rfl, rfl⟩ := he
    obtain ⟨h0, h1, h2⟩ := h f args ht
    refine ⟨h1, Nat.le_refl _, by simp, fun ι w args' ha hH hdom hg => ?_⟩
    rw [plains_eq ha h0]
    refine (h2 w).mono fun e w' hq => ?_
    obtain ⟨rfl, q0⟩ := hq
    have q1 := q0.size
    have q2 := q0.block
    exact ⟨v, ι, rfl, .same hv, ⟨fun b B hB => (hH.at_ b B hB).imp fun k ⟨c, e1, e2⟩ => ⟨c, e1, e2.mono (Ext1.refl _) (q2 k e2.lt)⟩, hH.inj⟩, hdom, ⟨Ext1.refl _, q1, fun k hk _ => q2 k hk, fun b k c e e' => (by rw [e] at e'; cases e'), fun b e e' => absurd e e', ⟨q0.os, q0.tape, q0.output⟩⟩⟩
def oraOr (a b : CallT) : CallT := fun f args h n => match a f args h n with | some r => some r | none => b f args h n
theorem oraOr_ok {a b : CallT} (ha : CallOK P G a) (hb : CallOK P G b) : CallOK P G (oraOr a b) := by
  intro f args h n v h' n' d he
  unfold oraOr at he
  split at he
  · rename_i r hr
    simp only [Option.some.injEq] at he
    subst he
    exact ha f args h n v h' n' d hr
  · exact hb f args h n v h' n' d he
end
end Go.Ev
