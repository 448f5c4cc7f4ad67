/-
  Evaluation of calls, part 7: operations that leave the world alone. No program in sight.
-/
import Derived.Test.YtelnnjofccldgaaGreatDoorEvG
import Derived.Deep.AppendSrc
import Derived.Laws.CopyRow
namespace Go.Ev
open Go

/-- a computation that asks nothing of the world -/
def pureRun {α : Type} (P : Program) : Sem α → Option α
  | .pure a => some a
  | .program k => pureRun P (k P)
  | .mark _ k => pureRun P k
  | _ => none
theorem pureRun_run {α : Type} {P : Program} {s : Sem α} {v : α} (h : pureRun P s = some v) (w : World) : s.run P w = .ok v w := by
  induction s with
  | pure a => simp only [pureRun, Option.some.injEq] at h; subst h; rfl
  | program k ih => exact ih P h
  | mark m k ih => exact ih h
  | _ => cases h

section
variable {P : Program} {G : Nat} {o : Oper} {ρ : Operand → Value} {σ : Hp} {n : Nat}

theorem Step.quiet {ι : Img} {w : World} {v v' : Value} {rd : List Nat} {n : Nat} (h : VR ι v v') : Step ι w ι w ⟨v, rd, [], n, n⟩ v' :=
  ⟨h, Ext1.refl _, fun b e e' => absurd e e', Nat.le_refl _, fun _ _ _ => rfl, fun b B e => (by simp [look] at e), fun b b' B B' k c c' e => (by simp [look] at e), fun b k c e e' => (by rw [e] at e'; cases e'), Same3.refl _⟩
/-- an operation that yields a value and does nothing else -/
theorem ok_val {v : Value} {rd : List Nat} (h : ∀ (ι : Img) (a : Act) (w : World), (∀ x ∈ o.op.operands, VR ι (ρ x) (a.eval x)) → HR ι w (fun b => if b ∈ rd then σ b else none) → ∃ v', VR ι v v' ∧ (execOp a.eval o).run P w = .ok (.value v') w) :
    OpOK P G o ρ σ ⟨v, rd, [], n, n⟩ := by
  intro ι a w _ ho _ _ hH K Q hK
  obtain ⟨v', h1, h2⟩ := h ι a w ho hH
  unfold Oper.wp
  rw [h2]
  exact hK ι v' w (.quiet h1)

def notSel (o : Oper) : Bool := match o.op with | .select _ _ => false | _ => true
/-- operands without addresses: the operation itself is run -/
def evPure (P : Program) (o : Oper) (ρ : Operand → Value) (n : Nat) : Option Eff :=
  bif notSel o && o.op.operands.toList.all (fun x => free 2 (ρ x)) then
    match pureRun P (execOp ρ o) with
    | some (.value v) => bif free 2 v then some ⟨v, [], [], n, n⟩ else none
    | _ => none
  else none
theorem evPure_ok {E : Eff} (h : evPure P o ρ n = some E) : OpOK P G o ρ σ E ∧ E.lo = n ∧ n ≤ E.hi := by
  unfold evPure at h
  cases hc : (notSel o && o.op.operands.toList.all (fun x => free 2 (ρ x))) with
  | false => rw [hc] at h; cases h
  | true =>
    rw [hc] at h
    simp only [cond_true] at h
    simp only [Bool.and_eq_true, List.all_eq_true, Array.mem_toList_iff] at hc
    split at h
    · rename_i v hv
      cases hf : free 2 v with
      | false => rw [hf] at h; cases h
      | true =>
        rw [hf] at h
        simp only [cond_true, Option.some.injEq] at h
        subst h
        refine ⟨ok_val fun ι a w ho _ => ⟨v, free_refl hf, ?_⟩, rfl, Nat.le_refl _⟩
        have e : execOp a.eval o = execOp ρ o := execOp_congr o (fun cs b e => by unfold notSel at hc; rw [e] at hc; cases hc.1) fun x hx => free_eq (ho x hx) (hc.2 x hx)
        rw [e]
        exact pureRun_run hv w
    · cases h

theorem ok_move {x : Operand} (ho : o.op = .move x ∨ o.op = .assign x) : OpOK P G o ρ σ ⟨ρ x, [], [], n, n⟩ :=
  ok_val fun ι a w h _ => ⟨a.eval x, h x (by rcases ho with e | e <;> simp [e, Op.operands]), by rcases ho with e | e <;> simp [execOp, e]⟩
theorem ok_pick {c x y : Operand} {b : Bool} (ho : o.op = .pick c x y) (hb : ρ c = .bool b) : OpOK P G o ρ σ ⟨bif b then ρ x else ρ y, [], [], n, n⟩ :=
  ok_val fun ι a w h _ => by
    have hc := h c (by simp [ho, Op.operands])
    rw [hb] at hc
    have e := hc.plain_eq rfl
    refine ⟨if b then a.eval x else a.eval y, ?_, by simp [execOp, ho, e, asBool]⟩
    cases b
    · exact h y (by simp [ho, Op.operands])
    · exact h x (by simp [ho, Op.operands])
theorem ok_extract {t : Operand} {i : Nat} {vs : List Value} {v : Value} (ho : o.op = .extract t i) (ht : ρ t = .tuple ⟨vs⟩) (hv : vs[i]? = some v) : OpOK P G o ρ σ ⟨v, [], [], n, n⟩ :=
  ok_val fun ι a w h _ => by
    have hc := h t (by simp [ho, Op.operands])
    rw [ht] at hc
    have key : ∃ vs', a.eval t = .tuple ⟨vs'⟩ ∧ VRs ι vs vs' := by
      generalize a.eval t = u at hc
      cases hc with
      | same p =>
        have : vs = [] := by simpa [plain] using p
        subst this; simp at hv
      | tuple k => exact ⟨_, rfl, k⟩
    obtain ⟨vs', e, k⟩ := key
    obtain ⟨v', h1, h2⟩ := k.at i hv
    refine ⟨v', h2, ?_⟩
    unfold execOp
    simp only [ho, e, Instr.extract, Sem.run_bind]
    have : (⟨vs'⟩ : Array Value)[i]? = some v' := by simpa using h1
    simp only [this, Sem.run_pure, Result.andThen_ok]
theorem VR.agg_inv {ι : Img} {cs : List Value} {u : Value} (h : VR ι (.agg ⟨cs⟩) u) : ∃ cs', u = .agg ⟨cs'⟩ ∧ VRs ι cs cs' := by
  cases h with
  | same p => simp [plain] at p
  | agg k => exact ⟨_, rfl, k⟩

/-- a part of an aggregate -/
def partA (P : Program) (t : TypeId) (cs : List Value) (off : Nat) : Option Value :=
  match pureRun P (isAgg t) with
  | some true => (pureRun P (sizeOf t)).map fun k => .agg ⟨(cs.drop off).take k⟩
  | some false => cs[off]?
  | none => none
theorem partA_ok {t : TypeId} {cs cs' : List Value} {off : Nat} {v : Value} {ι : Img} (h : partA P t cs off = some v) (hc : VRs ι cs cs') : ∃ v', VR ι v v' ∧ ∀ w, (part t ⟨cs'⟩ off).run P w = .ok v' w := by
  unfold partA at h
  split at h
  · rename_i hg
    cases hs : pureRun P (sizeOf t) with
    | none => rw [hs] at h; cases h
    | some k =>
      rw [hs] at h
      simp only [Option.map_some, Option.some.injEq] at h
      subst h
      refine ⟨.agg ⟨(cs'.drop off).take k⟩, .agg ((hc.drop off).take k), fun w => ?_⟩
      unfold part
      simp only [Sem.run_bind, pureRun_run hg w, Result.andThen_ok, if_true, pureRun_run hs w, Sem.run_pure]
      congr 2
      apply Array.ext'
      simp [List.extract_eq_take_drop]
  · rename_i hg
    obtain ⟨v', h1, h2⟩ := hc.at off h
    refine ⟨v', h2, fun w => ?_⟩
    unfold part
    have : (⟨cs'⟩ : Array Value)[off]? = some v' := by simpa using h1
    simp only [Sem.run_bind, pureRun_run hg w, Result.andThen_ok, this]
    rfl
  · cases h
def evField (P : Program) (t : TypeId) (x : Value) (i n : Nat) : Option Eff :=
  match pureRun P (underlying t), x with
  | some (.struct fs), .agg cs => match fs[i]? with
    | some f => (partA P f.type cs.toList f.offset).map fun v => ⟨v, [], [], n, n⟩
    | none => none
  | _, _ => none
theorem evField_ok {t : TypeId} {x : Operand} {i : Nat} {E : Eff} (ho : o.op = .field t x i) (h : evField P t (ρ x) i n = some E) : OpOK P G o ρ σ E ∧ E.lo = n ∧ n ≤ E.hi := by
  unfold evField at h
  split at h
  · rename_i fs cs hu hx
    split at h
    · rename_i f hf
      cases hp : partA P f.type cs.toList f.offset with
      | none => rw [hp] at h; cases h
      | some v =>
        rw [hp] at h
        simp only [Option.map_some, Option.some.injEq] at h
        subst h
        refine ⟨ok_val fun ι a w hv _ => ?_, rfl, Nat.le_refl _⟩
        have hc := hv x (by simp [ho, Op.operands])
        rw [hx] at hc
        obtain ⟨cs', e, k⟩ := VR.agg_inv (cs := cs.toList) hc
        obtain ⟨v', h1, h2⟩ := partA_ok hp k
        refine ⟨v', h1, ?_⟩
        unfold execOp
        simp only [ho, Instr.field, Sem.run_bind, pureRun_run hu w, Result.andThen_ok, hf, e, asAgg, Sem.run_pure, h2 w]
    · cases h
  · cases h

theorem VR.ptr_inv {ι : Img} {b off : Nat} {s : Option Nat} {u : Value} (h : VR ι (.pointer (some ⟨b, off, s⟩)) u) : ∃ k c, u = .pointer (some ⟨k, off, s⟩) ∧ ι b = some (k, c) := by
  cases h with
  | same p => simp [plain] at p
  | ptr e => exact ⟨_, _, rfl, e⟩
theorem VR.slice_inv {ι : Img} {b off m cap : Nat} {u : Value} (h : VR ι (.slice (some ⟨b, off, none⟩) m cap) u) : ∃ k c cap', u = .slice (some ⟨k, off, none⟩) m cap' ∧ ι b = some (k, c) ∧ cap' + big = cap + c ∧ m ≤ cap' := by
  cases h with
  | same p => simp [plain] at p
  | slice e1 e2 e3 => exact ⟨_, _, _, rfl, e1, e2, e3⟩
theorem add_eq (b o k : Nat) : (⟨b, o, none⟩ : Addr).add k = ⟨b, o + k, none⟩ := by unfold Addr.add; split <;> simp_all
def evFieldAddr (P : Program) (s : TypeId) (x : Value) (i n : Nat) : Option Eff :=
  match pureRun P (underlying s), x with
  | some (.struct fs), .pointer (some ⟨b, off, none⟩) => match fs[i]? with
    | some f => match pureRun P (sizeOf f.type) with
      | some (_k + 1) => some ⟨.pointer (some ⟨b, off + f.offset, none⟩), [], [], n, n⟩
      | _ => none
    | none => none
  | _, _ => none
theorem evFieldAddr_ok {s : TypeId} {x : Operand} {i : Nat} {E : Eff} (ho : o.op = .fieldAddr s x i) (h : evFieldAddr P s (ρ x) i n = some E) : OpOK P G o ρ σ E ∧ E.lo = n ∧ n ≤ E.hi := by
  unfold evFieldAddr at h
  split at h
  · rename_i fs b off hu hx
    split at h
    · rename_i f hf
      split at h
      · rename_i k hk
        simp only [Option.some.injEq] at h
        subst h
        refine ⟨ok_val fun ι a w hv _ => ?_, rfl, Nat.le_refl _⟩
        have hc := hv x (by simp [ho, Op.operands])
        rw [hx] at hc
        obtain ⟨k', c, e, hi⟩ := hc.ptr_inv
        refine ⟨_, .ptr hi, ?_⟩
        unfold execOp
        simp only [ho, Instr.fieldAt, Sem.run_bind, pureRun_run hu w, Result.andThen_ok, hf, e, Instr.sureAddr, Sem.run_pure, fieldPlace, pureRun_run hk w, Nat.add_one_ne_zero, if_false, add_eq]
      · cases h
    · cases h
  · cases h
def evIndexAddr (P : Program) (t : TypeId) (x i : Value) (n : Nat) : Option Eff :=
  match pureRun P (underlying t), x, i with
  | some (.slice e), .slice (some ⟨b, off, none⟩) len _, .int _ i => match pureRun P (sizeOf e) with
    | some sz => bif decide (0 ≤ i) && decide (i < len) then some ⟨.pointer (some ⟨b, off + i.toNat * sz, none⟩), [], [], n, n⟩ else none
    | none => none
  | some (.array len e), .pointer (some ⟨b, off, none⟩), .int _ i => match pureRun P (sizeOf e) with
    | some sz => bif decide (0 ≤ i) && decide (i < len) then some ⟨.pointer (some ⟨b, off + i.toNat * sz, none⟩), [], [], n, n⟩ else none
    | none => none
  | _, _, _ => none
theorem evIndexAddr_ok {t : TypeId} {x y : Operand} {E : Eff} (ho : o.op = .indexAddr t x y) (h : evIndexAddr P t (ρ x) (ρ y) n = some E) : OpOK P G o ρ σ E ∧ E.lo = n ∧ n ≤ E.hi := by
  unfold evIndexAddr at h
  split at h
  · rename_i e b off len cap ik i hu hx hy
    split at h
    · rename_i sz hs
      cases hb : (decide (0 ≤ i) && decide (i < (len : Int))) with
      | false => rw [hb] at h; cases h
      | true =>
        rw [hb] at h
        simp only [cond_true, Option.some.injEq] at h
        subst h
        simp only [Bool.and_eq_true, decide_eq_true_eq] at hb
        refine ⟨ok_val fun ι a w hv _ => ?_, rfl, Nat.le_refl _⟩
        have hc := hv x (by simp [ho, Op.operands])
        have hd := hv y (by simp [ho, Op.operands])
        rw [hx] at hc; rw [hy] at hd
        obtain ⟨k', c, cap', e', hi, -, -⟩ := hc.slice_inv
        have hd' := hd.plain_eq rfl
        refine ⟨_, .ptr hi, ?_⟩
        unfold execOp
        simp only [ho, Instr.indexAt, hd', asIntOf, Sem.run_bind, pureRun_run hu w, Result.andThen_ok, e', Sem.run_pure]
        simp only [hb, and_self, if_true, Sem.run_bind, pureRun_run hs w, Result.andThen_ok, Sem.run_pure, add_eq]
    · cases h
  · rename_i len e b off ik i hu hx hy
    split at h
    · rename_i sz hs
      cases hb : (decide (0 ≤ i) && decide (i < (len : Int))) with
      | false => rw [hb] at h; cases h
      | true =>
        rw [hb] at h
        simp only [cond_true, Option.some.injEq] at h
        subst h
        simp only [Bool.and_eq_true, decide_eq_true_eq] at hb
        refine ⟨ok_val fun ι a w hv _ => ?_, rfl, Nat.le_refl _⟩
        have hc := hv x (by simp [ho, Op.operands])
        have hd := hv y (by simp [ho, Op.operands])
        rw [hx] at hc; rw [hy] at hd
        obtain ⟨k', c, e', hi⟩ := hc.ptr_inv
        have hd' := hd.plain_eq rfl
        refine ⟨_, .ptr hi, ?_⟩
        unfold execOp
        simp only [ho, Instr.indexAt, hd', asIntOf, Sem.run_bind, pureRun_run hu w, Result.andThen_ok, e', Sem.run_pure, Instr.sureAddr]
        simp only [hb, and_self, if_true, Sem.run_bind, pureRun_run hs w, Result.andThen_ok, Sem.run_pure, add_eq]
    · cases h
  · cases h
end
end Go.Ev
