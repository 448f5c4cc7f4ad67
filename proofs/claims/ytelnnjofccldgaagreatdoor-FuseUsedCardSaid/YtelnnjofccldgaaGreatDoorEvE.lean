/-
  Evaluation of calls, part 4: the evaluator of code, and that a call does what it says. No program in sight.
-/
import Derived.Test.YtelnnjofccldgaaGreatDoorEvS
namespace Go.Ev
open Go

theorem beq_no {a b : Nat} (h : a ≠ b) : Nat.beq a b = false := by
  cases h' : Nat.beq a b with
  | false => rfl
  | true => exact absurd (Nat.eq_of_beq_eq_true h') h
/-- the slots: a tree, number n's way down by its halves -/
inductive Tr
  | lf
  | nd (v : Value) (l r : Tr)
noncomputable def Tr.get (t : Tr) : Nat → Value := Tr.rec (fun _ => undef) (fun v _ _ gl gr n => bif Nat.beq n 0 then v else bif Nat.beq (n % 2) 1 then gl (n / 2) else gr (n / 2 - 1)) t
theorem Tr.get_lf (n : Nat) : Tr.lf.get n = undef := rfl
theorem Tr.get_nd (v : Value) (l r : Tr) (n : Nat) : (Tr.nd v l r).get n = if n = 0 then v else if n % 2 = 1 then l.get (n / 2) else r.get (n / 2 - 1) := by
  show (bif Nat.beq n 0 then v else bif Nat.beq (n % 2) 1 then l.get (n / 2) else r.get (n / 2 - 1)) = _
  by_cases h : n = 0
  · subst h; rfl
  · rw [if_neg h, beq_no h]
    by_cases h1 : n % 2 = 1
    · rw [if_pos h1, h1]; rfl
    · rw [if_neg h1, beq_no h1]; rfl
def Tr.set : Nat → Tr → Nat → Value → Tr
  | 0, t, _, _ => t
  | k + 1, .lf, n, v => bif Nat.beq n 0 then .nd v .lf .lf else bif Nat.beq (n % 2) 1 then .nd undef (Tr.set k .lf (n / 2) v) .lf else .nd undef .lf (Tr.set k .lf (n / 2 - 1) v)
  | k + 1, .nd x l r, n, v => bif Nat.beq n 0 then .nd v l r else bif Nat.beq (n % 2) 1 then .nd x (Tr.set k l (n / 2) v) r else .nd x l (Tr.set k r (n / 2 - 1) v)
theorem Tr.get_set : ∀ (k : Nat) (t : Tr) (n m : Nat) (v : Value), n + 1 < 2 ^ k → (Tr.set k t n v).get m = if m = n then v else t.get m
  | 0, t, n, m, v, h => by simp at h
  | k + 1, t, n, m, v, h => by
    rw [Nat.pow_succ] at h
    have key : ∀ (x : Value) (l r : Tr), (bif Nat.beq n 0 then Tr.nd v l r else bif Nat.beq (n % 2) 1 then .nd x (Tr.set k l (n / 2) v) r else .nd x l (Tr.set k r (n / 2 - 1) v)).get m = if m = n then v else (Tr.nd x l r).get m := by
      intro x l r
      by_cases h0 : n = 0
      · subst h0
        simp only [Nat.beq_refl, cond_true, Tr.get_nd]
        by_cases hm : m = 0
        · simp [hm]
        · simp [hm]
      · rw [beq_no h0]
        simp only [cond_false]
        by_cases h1 : n % 2 = 1
        · rw [h1]
          simp only [Nat.beq_refl, cond_true, Tr.get_nd]
          by_cases hm : m = 0
          · subst hm; rw [if_pos rfl, if_neg (by omega), if_pos rfl]
          · rw [if_neg hm, if_neg hm]
            by_cases hm1 : m % 2 = 1
            · rw [if_pos hm1, if_pos hm1, Tr.get_set k l (n / 2) (m / 2) v (by omega)]
              by_cases e : m = n
              · subst e; simp
              · rw [if_neg (by omega), if_neg e]
            · rw [if_neg hm1, if_neg hm1, if_neg (by omega)]
        · rw [beq_no h1]
          simp only [cond_false, Tr.get_nd]
          by_cases hm : m = 0
          · subst hm; rw [if_pos rfl, if_neg (by omega), if_pos rfl]
          · rw [if_neg hm, if_neg hm]
            by_cases hm1 : m % 2 = 1
            · rw [if_pos hm1, if_pos hm1, if_neg (by omega)]
            · rw [if_neg hm1, if_neg hm1, Tr.get_set k r (n / 2 - 1) (m / 2 - 1) v (by omega)]
              by_cases e : m = n
              · subst e; simp
              · rw [if_neg (by omega), if_neg e]
    cases t with
    | nd x l r => exact key x l r
    | lf =>
      have := key undef .lf .lf
      have e : (Tr.nd undef .lf .lf).get m = Tr.lf.get m := by
        rw [Tr.get_nd]
        split
        · rfl
        · split <;> rfl
      rw [e] at this
      exact this
def Tr.ofL : List Value → Nat → Tr → Tr
  | [], _, t => t
  | v :: l, i, t => Tr.ofL l (i + 1) (Tr.set 9 t i v)
theorem Tr.get_ofL : ∀ (l : List Value) (i : Nat) (t : Tr) (m : Nat), i + l.length ≤ 500 → (Tr.ofL l i t).get m = if i ≤ m ∧ m < i + l.length then l.getD (m - i) undef else t.get m
  | [], i, t, m, _ => by
    simp only [Tr.ofL, List.length_nil]
    rw [if_neg (by omega)]
  | v :: l, i, t, m, h => by
    simp only [List.length_cons] at h ⊢
    simp only [Tr.ofL]
    rw [Tr.get_ofL l (i + 1) _ m (by omega), Tr.get_set 9 t i m v (by omega)]
    by_cases h1 : m = i
    · subst h1
      rw [if_neg (by omega), if_pos rfl, if_pos (by omega)]
      simp
    · by_cases h2 : i + 1 ≤ m ∧ m < i + 1 + l.length
      · rw [if_pos h2, if_pos (by omega), show m - i = (m - (i + 1)) + 1 by omega]
        simp
      · rw [if_neg h2, if_neg h1, if_neg (by omega)]

structure St where
  tmps : Tr
  sz : Nat
  heap : Al
  next : Nat
  dirty : List Nat
noncomputable def St.T (st : St) (t : Nat) : Value := st.tmps.get t

/-- what a call comes to: its value, the blocks that it leaves, the next name, the elder blocks that it wrote -/
abbrev CallT := FuncId → List Value → Al → Nat → Option (Value × Al × Nat × List Nat)
def CallOK (P : Program) (G : Nat) (call : CallT) : Prop := ∀ f args h n v h' n' d, call f args h n = some (v, h', n', d) → (∃ fn, P.funcs[f]? = some fn ∧ fn.body.isNone = false ∧ (fn.name == "runtime.NumGoroutine") = false) ∧ n ≤ n' ∧ (∀ b ∈ d, b < n) ∧
  ∀ (ι : Img) (w : World) (args' : List Value), VRs ι args args' → HR ι w (hp h) → (∀ b, ι b ≠ none → b < n) → (∀ g, g < G → ι g = some (g, big)) →
    Calls P f ⟨args'⟩ w fun e w' => ∃ v' ι', e = .returned v' ∧ VR ι' v v' ∧ HR ι' w' (hp h') ∧ (∀ b, ι' b ≠ none → b < n') ∧ Fr n (· ∈ d) ι w ι' w'
abbrev OpT := CallT → Oper → (Nat → Value) → Al → Nat → Option Eff
def OpSound (P : Program) (G : Nat) (evOp : OpT) : Prop := ∀ call, CallOK P G call → ∀ o T h n E, evOp call o T h n = some E → G ≤ n → OpOK P G o (rho T) (hp h) E ∧ E.lo = n ∧ n ≤ E.hi

/-- the operations ahead of each one, as the bits of a number -/
def preOf (es : List Edge) (acc : List Nat) : Nat := es.foldr (fun e m => bif Region.binds .any e then (1 <<< e.on) ||| acc.getD e.on 0 ||| m else m) 0
def preAll : List Oper → List Nat → List Nat
  | [], acc => acc
  | o :: l, acc => preAll l (acc ++ [preOf o.after.toList acc])
def preN (ops : Array Oper) (j : Nat) : Nat := (preAll ops.toList []).getD j 0

def dstOf (o : Oper) : List Nat := o.dst.toList
/-- two operations, x ahead of y: whether they touch each other's slots -/
def tconf (ops : Array Oper) (x y : Oper) : Bool :=
  (match x.dst with | some d => (y.looksAt ops).contains d || y.dst == some d | none => false) || (match y.dst with | some d => (x.looksAt ops).contains d | none => false)
/-- what can be seen of a region without running it -/
def regOK (G N : Nat) (draw : Bool) (ops : Array Oper) : Bool :=
  let l := ops.toList.zipIdx
  let pr := preAll ops.toList []
  l.all fun (o, j) => (o.after.all fun e => !Region.binds .any e || decide (e.on < j)) && (o.op.operands.all (opnd G)) && (match o.dst with | some d => decide (d < N) && decide (d < 500) | none => true) &&
    (!draw || l.all fun (x, i) => !decide (i < j) || !tconf ops x o || (pr.getD j 0).testBit i)
def statC (G N : Nat) : Code → Bool
  | .region _ ops draw => regOK G N draw ops
  | .seq a b => statC G N a && statC G N b
  | .cond _ a b => statC G N a && statC G N b
  | .block _ c => statC G N c
  | .loop c => statC G N c
  | .scope c => statC G N c
  | _ => true

def mconf (x y : Eff) : Bool := meets (keys x.wr) y.rd || meets (keys x.wr) (keys y.wr) || meets x.rd (keys y.wr)
def quietE (x : Eff) : Bool := x.rd.isEmpty && x.wr.isEmpty
/-- the blocks' side, as it went -/
def memOK (pr : List Nat) : List Stp → Nat → List (Nat × Eff) → Bool
  | [], _, _ => true
  | s :: l, j, acc => bif quietE s.eff then memOK pr l (j + 1) acc else (acc.all fun p => !mconf p.2 s.eff || (pr.getD j 0).testBit p.1) && memOK pr l (j + 1) ((j, s.eff) :: acc)

section
variable (evOp : OpT) (call : CallT) (m0 : Nat) (ops : Array Oper)
def setT (l : Tr) (o : Option Nat) (v : Value) : Tr := match o with | some d => Tr.set 9 l d v | none => l
noncomputable def ev1 (o : Oper) (st : St) : Option (Stp × St) :=
  bif wantedA ops st.T o then
    (evOp call o st.T st.heap st.next).bind fun E =>
      bif (E.rd.all fun b => (hp st.heap b).isSome) && ((keys E.wr).all fun b => E.rd.contains b || (decide (E.lo ≤ b) && decide (b < E.hi))) then
        some (⟨o.dst, o.looksAt ops, E⟩, ⟨setT st.tmps o.dst E.out, st.sz, E.wr ++ st.heap, E.hi, (keys E.wr).filter (fun b => decide (b < m0)) ++ st.dirty⟩)
      else none
  else some (⟨o.dst, o.looksAt ops, ⟨undef, [], [], st.next, st.next⟩⟩, { st with tmps := setT st.tmps o.dst undef })
noncomputable def evOps : List Oper → St → Option (List Stp × St)
  | [], st => some ([], st)
  | o :: l, st => (ev1 evOp call m0 ops o st).bind fun r => (evOps l r.2).bind fun q => some (r.1 :: q.1, q.2)
noncomputable def evR (draw : Bool) (st : St) : Option St := (evOps evOp call m0 ops ops.toList st).bind fun r => bif !draw || memOK (preAll ops.toList []) r.1 0 [] then some r.2 else none
end

inductive X
  | normal
  | exit (id : Nat)
  | goto (l : Nat)
  | ret
def X.out : X → Exit
  | .normal => .normal
  | .exit id => .exit id
  | .goto l => .goto l
  | .ret => .ret

/-! what has been reckoned is laid down as such -/
def fN {α : Type} (n : Nat) (k : Nat → α) : α := match n with | 0 => k 0 | m + 1 => k (m + 1)
theorem fN_eq {α : Type} (n : Nat) (k : Nat → α) : fN n k = k n := by cases n <;> rfl
def fI {α : Type} (n : Int) (k : Int → α) : α := match n with | .ofNat m => fN m fun m => k (.ofNat m) | .negSucc m => fN m fun m => k (.negSucc m)
theorem fI_eq {α : Type} (n : Int) (k : Int → α) : fI n k = k n := by cases n <;> simp [fI, fN_eq]
def fB {α : Type} (b : Bool) (k : Bool → α) : α := match b with | true => k true | false => k false
theorem fB_eq {α : Type} (b : Bool) (k : Bool → α) : fB b k = k b := by cases b <;> rfl
def fV {α : Type} (v : Value) (k : Value → α) : α :=
  match v with
  | .int i n => fI n fun n => k (.int i n)
  | .bool b => fB b fun b => k (.bool b)
  | .pointer (some ⟨b, o, s⟩) => fN b fun b => fN o fun o => k (.pointer (some ⟨b, o, s⟩))
  | .slice (some ⟨b, o, s⟩) n c => fN b fun b => fN o fun o => fN n fun n => fN c fun c => k (.slice (some ⟨b, o, s⟩) n c)
  | .map (some r) => fN r fun r => k (.map (some r))
  | v => k v
theorem fV_eq {α : Type} (v : Value) (k : Value → α) : fV v k = k v := by
  unfold fV
  split <;> simp only [fI_eq, fB_eq, fN_eq]
def fL {α : Type} : List Value → (List Value → α) → α
  | [], k => k []
  | v :: l, k => fV v fun v => fL l fun l => k (v :: l)
theorem fL_eq {α : Type} : ∀ (l : List Value) (k : List Value → α), fL l k = k l
  | [], _ => rfl
  | v :: l, k => by simp only [fL, fV_eq, fL_eq l]
def fNs {α : Type} : List Nat → (List Nat → α) → α
  | [], k => k []
  | v :: l, k => fN v fun v => fNs l fun l => k (v :: l)
theorem fNs_eq {α : Type} : ∀ (l : List Nat) (k : List Nat → α), fNs l k = k l
  | [], _ => rfl
  | v :: l, k => by simp only [fNs, fN_eq, fNs_eq l]
def fBk {α : Type} (b : Option Blk) (k : Option Blk → α) : α :=
  match b with
  | some (.row cs e sz ex) => fL cs fun cs => fB ex fun ex => k (some (.row cs e sz ex))
  | some (.map ks vs born cl) => fL ks fun ks => fL vs fun vs => fNs born fun born => fN cl fun cl => k (some (.map ks vs born cl))
  | none => k none
theorem fBk_eq {α : Type} (b : Option Blk) (k : Option Blk → α) : fBk b k = k b := by
  unfold fBk
  split <;> simp only [fL_eq, fB_eq, fNs_eq, fN_eq]
def fA {α : Type} : Al → (Al → α) → α
  | [], k => k []
  | (b, x) :: l, k => fN b fun b => fBk x fun x => fA l fun l => k ((b, x) :: l)
theorem fA_eq {α : Type} : ∀ (l : Al) (k : Al → α), fA l k = k l
  | [], _ => rfl
  | (b, x) :: l, k => by simp only [fA, fN_eq, fBk_eq, fA_eq l]
def fT {α : Type} : Tr → (Tr → α) → α
  | .lf, k => k .lf
  | .nd v l r, k => fV v fun v => fT l fun l => fT r fun r => k (.nd v l r)
theorem fT_eq {α : Type} : ∀ (l : Tr) (k : Tr → α), fT l k = k l
  | .lf, _ => rfl
  | .nd v l r, k => by simp only [fT, fV_eq, fT_eq l, fT_eq r]
def normSt {α : Type} (st : St) (k : St → α) : α := match st with | ⟨t, s, h, n, d⟩ => fT t fun t => fA h fun h => fN n fun n => fNs d fun d => k ⟨t, s, h, n, d⟩
theorem normSt_eq {α : Type} (st : St) (k : St → α) : normSt st k = k st := by
  cases st
  simp only [normSt, fT_eq, fA_eq, fN_eq, fNs_eq]
def normR {α : Type} (v : Value) (h : Al) (n : Nat) (d : List Nat) (k : Value → Al → Nat → List Nat → α) : α := fV v fun v => fA h fun h => fN n fun n => fNs d fun d => k v h n d
theorem normR_eq {α : Type} (v : Value) (h : Al) (n : Nat) (d : List Nat) (k : Value → Al → Nat → List Nat → α) : normR v h n d k = k v h n d := by
  simp only [normR, fV_eq, fA_eq, fN_eq, fNs_eq]

section
variable (evOp : OpT) (P : Program) (G : Nat) (S : Nat → Bool) (comp : Value → Al → Nat → Al) (ld : TypeId → Value → Al → Option Value) (ora : CallT)
noncomputable def resF (ld : TypeId → Value → Al → Option Value) (st : St) : ResultVar → Option Value
  | .tmp t => some (st.T t)
  | .cell a t => ld t (st.T a) st.heap
noncomputable def resL (ld : TypeId → Value → Al → Option Value) (st : St) : List ResultVar → Option (List Value)
  | [] => some []
  | r :: l => (resF ld st r).bind fun v => (resL ld st l).map fun vs => v :: vs
noncomputable def resV (ld : TypeId → Value → Al → Option Value) (fn : Func) (st : St) : Option Value := (resL ld st fn.results.toList).map fun vs => match vs with | [v] => v | vs => .tuple ⟨vs⟩
noncomputable def evC : Nat → Option Code → Nat → Code → St → Option (X × St)
  | 0, _, _, _, _ => none
  | k + 1, some s, m0, c, st => (evC k none m0 c st).bind fun r => match r.1 with
    | .goto l => (match findLabel s l with | some rest => evC k (some s) m0 rest r.2 | none => some (.goto l, r.2))
    | x => some (x, r.2)
  | k + 1, none, m0, c, st =>
    match c with
    | .skip => some (.normal, st)
    | .label _ => some (.normal, st)
    | .seq a b => (evC k none m0 a st).bind fun r => match r.1 with | .normal => evC k none m0 b r.2 | x => some (x, r.2)
    | .cond c t e => match rho st.T c with | .bool b => evC k none m0 (bif b then t else e) st | _ => none
    | .block id c => (evC k none m0 c st).bind fun r => match r.1 with | .exit i => some (bif i == id then .normal else .exit i, r.2) | x => some (x, r.2)
    | .loop c => normSt st fun st => (evC k none m0 c st).bind fun r => match r.1 with | .normal => evC k none m0 (.loop c) r.2 | x => some (x, r.2)
    | .exit id => some (.exit id, st)
    | .goto l => some (.goto l, st)
    | .scope c => evC k (some c) m0 c st
    | .ret => some (.ret, st)
    | .region _ ops draw => (evR evOp (fun f args h n => bif S f && decide (G ≤ n) then
        (match P.funcs[f]? with
        | some fn => match fn.body with
          | some c => bif Nat.blt fn.ntmps args.length || Nat.blt 500 args.length then none else normSt ⟨Tr.ofL args 0 .lf, fn.ntmps, h, n, []⟩ fun st => (evC k none n c st).bind fun r => match r.1 with
            | .exit _ => none
            | .goto _ => none
            | _ => (resV ld fn r.2).bind fun v => normR v (comp v r.2.heap n) r.2.next r.2.dirty fun v h n d => some (v, h, n, d)
          | none => none
        | none => none) else ora f args h n) m0 ops draw st).map fun st => (.normal, st)
    | _ => none
end
end Go.Ev
