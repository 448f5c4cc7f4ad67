/-
  Evaluation of calls, part 12: calls of functions. No program in sight.
-/
import Derived.Test.YtelnnjofccldgaaGreatDoorEvA
namespace Go.Ev
open Go

/-- the blocks that a value looks at -/
def idsV : Nat → Value → List Nat
  | _, .pointer (some a) => [a.block]
  | _, .slice (some a) _ _ => [a.block]
  | _, .map (some r) => [r]
  | n + 1, .func _ _ cs => cs.toList.flatMap (idsV n)
  | n + 1, .agg cs => cs.toList.flatMap (idsV n)
  | n + 1, .tuple cs => cs.toList.flatMap (idsV n)
  | _, _ => []
def idsB : Option Blk → List Nat
  | some (.row cs _ _ _) => cs.flatMap (idsV 4)
  | some (.map _ vs _ _) => vs.flatMap (idsV 4)
  | none => []
def reach (σ : Hp) : Nat → List Nat → List Nat → List Nat
  | 0, _, seen => seen
  | _ + 1, [], seen => seen
  | k + 1, b :: work, seen => bif seen.contains b then reach σ k work seen else reach σ k (idsB (σ b) ++ work) (b :: seen)
section
variable {P : Program} {G : Nat} {o : Oper} {ρ : Operand → Value} {σ : Hp} {n : Nat}

theorem look_map (f : Nat → Option Blk) : ∀ (l : List Nat) (b : Nat) (x : Option Blk), look (l.map fun b => (b, f b)) b = some x → b ∈ l ∧ x = f b
  | [], b, x, h => by simp [look] at h
  | i :: l, b, x, h => by
    simp only [List.map_cons, look] at h
    split at h
    · rename_i q
      simp only [beq_iff_eq] at q
      simp only [Option.some.injEq] at h
      subst q
      exact ⟨by simp, h.symm⟩
    · obtain ⟨h1, h2⟩ := look_map f l b x h
      exact ⟨by simp [h1], h2⟩
theorem look_filter (p : Nat → Bool) : ∀ (l : Al) (b : Nat) (x : Option Blk), look (l.filter fun q => p q.1) b = some x → p b = true ∧ look l b = some x
  | [], b, x, h => by simp [look] at h
  | (i, y) :: l, b, x, h => by
    simp only [List.filter_cons] at h
    split at h
    · rename_i hp
      simp only [look] at h ⊢
      split at h
      · rename_i q
        simp only [beq_iff_eq] at q
        subst q
        exact ⟨hp, by simpa using h⟩
      · rename_i q
        have := look_filter p l b x h
        exact ⟨this.1, by simp only [q]; exact this.2⟩
    · rename_i hp
      have := look_filter p l b x h
      refine ⟨this.1, ?_⟩
      simp only [look]
      split
      · rename_i q
        simp only [beq_iff_eq] at q
        subst q
        exact absurd this.1 hp
      · exact this.2
theorem keys_map (f : Nat → Option Blk) (l : List Nat) : keys (l.map fun b => (b, f b)) = l := by
  simp [keys, List.map_map, Function.comp_def]

def blkOK (Rb : Nat → Bool) : Option Blk → Bool
  | some B => closedB Rb 5 B
  | none => false
def evCall (G : Nat) (call : CallT) (f : Value) (args : List Value) (σ : Hp) (n : Nat) : Option Eff :=
  match f with
  | .func (.func g) _ cs =>
    let as := args ++ cs.toList
    let R := reach σ 4000 (as.flatMap (idsV 4)) []
    let Rb := fun b => Nat.blt b G || R.contains b
    let live := R.filter fun b => (σ b).isSome
    bif as.all (closed Rb 5) && (live.all fun b => blkOK Rb (σ b)) && R.all (fun b => Nat.blt b n) && Nat.ble G n then
      (call g as (live.map fun b => (b, σ b)) n).bind fun r =>
        bif r.2.2.2.all (fun b => live.contains b) then
          some ⟨r.1, live, (r.2.2.2.map fun b => (b, hp r.2.1 b)) ++ (r.2.1.filter fun q => Nat.ble n q.1), n, r.2.2.1⟩
        else none
    else none
  | _ => none
theorem evCall_ok {call : CallT} (hc : CallOK P G call) {c : Call} {f : Operand} {E : Eff} (ho : o.op = .call c) (hcal : c.callee = .value f)
    (h : evCall G call (ρ f) (c.args.toList.map ρ) σ n = some E) : OpOK P G o ρ σ E ∧ E.lo = n ∧ n ≤ E.hi := by
  unfold evCall at h
  split at h
  · rename_i g fst cs hf
    dsimp only at h
    generalize has : c.args.toList.map ρ ++ cs.toList = as at h
    generalize hR : reach σ 4000 (as.flatMap (idsV 4)) [] = R at h
    cases hb : (as.all (closed (fun b => Nat.blt b G || R.contains b) 5) && ((R.filter fun b => (σ b).isSome).all fun b => blkOK (fun b => Nat.blt b G || R.contains b) (σ b)) && R.all (fun b => Nat.blt b n) && Nat.ble G n) with
    | false => rw [hb] at h; cases h
    | true =>
      rw [hb] at h
      simp only [cond_true] at h
      simp only [Bool.and_eq_true, List.all_eq_true] at hb
      obtain ⟨⟨⟨hb1, hb2⟩, hb3⟩, hb4⟩ := hb
      have hGn := Nat.le_of_ble_eq_true hb4
      cases hr : call g as ((R.filter fun b => (σ b).isSome).map fun b => (b, σ b)) n with
      | none => rw [hr] at h; cases h
      | some r =>
        obtain ⟨v, h', n', d⟩ := r
        rw [hr] at h
        simp only [Option.bind_some] at h
        cases hd : d.all (fun b => (R.filter fun b => (σ b).isSome).contains b) with
        | false => rw [hd] at h; cases h
        | true =>
          rw [hd] at h
          simp only [cond_true, Option.some.injEq] at h
          subst h
          simp only [List.all_eq_true, List.contains_iff_mem] at hd
          obtain ⟨⟨fn, f1, f2, f3⟩, c1, c2, c3⟩ := hc g as _ n v h' n' d hr
          refine ⟨?_, rfl, c1⟩
          intro ι a w hG hv hfr _ hH K Q hK
          generalize hRb : (fun b => Nat.blt b G || R.contains b) = Rb at hb1 hb2
          have RbG : ∀ g, g < G → Rb g = true := fun g hg => by rw [← hRb]; simp only [Bool.or_eq_true]; exact .inl (by rw [Nat.blt_eq]; exact hg)
          have RbR : ∀ b, b ∈ R → Rb b = true := fun b hb => by rw [← hRb]; simp only [Bool.or_eq_true, List.contains_iff_mem]; exact .inr hb
          have RbN : ∀ b, Rb b = true → b < n := fun b hb => by
            rw [← hRb] at hb
            simp only [Bool.or_eq_true, List.contains_iff_mem] at hb
            rcases hb with q | q
            · rw [Nat.blt_eq] at q; omega
            · have := hb3 b q; rwa [Nat.blt_eq] at this
          -- the call's arguments
          have hfv := hv f (by simp [ho, Op.operands, Call.operands, hcal])
          rw [hf] at hfv
          have key : ∃ cs', a.eval f = .func (.func g) #[] ⟨cs'⟩ ∧ VRs ι cs.toList cs' := by
            generalize a.eval f = u at hfv
            cases hfv with
            | same p => simp [plain] at p
            | func k => exact ⟨_, rfl, k⟩
          obtain ⟨cs', ef, kf⟩ := key
          have kargs : VRs ι as (c.args.toList.map a.eval ++ cs') := by
            rw [← has]
            exact (VRs.map fun x hx => hv x (by simp only [ho, Op.operands, Call.operands, hcal]; simp only [Array.mem_append]; exact .inr (by simpa using hx))).append kf
          have kargs' := closed_all (R := Rb) (n := 5) kargs (by rw [List.all_eq_true]; exact hb1)
          have hsub : ∀ b B, hp ((R.filter fun b => (σ b).isSome).map fun b => (b, σ b)) b = some B → b ∈ R ∧ b ∈ (R.filter fun b => (σ b).isSome) ∧ σ b = some B := fun b B hB => by
            unfold hp at hB
            cases hl : look ((R.filter fun b => (σ b).isSome).map fun b => (b, σ b)) b with
            | none => rw [hl] at hB; cases hB
            | some x =>
              rw [hl] at hB
              obtain ⟨q1, q2⟩ := look_map σ _ _ _ hl
              subst q2
              exact ⟨(List.mem_filter.1 q1).1, q1, by simpa using hB⟩
          have hHs : HR (cut ι Rb) w (hp ((R.filter fun b => (σ b).isSome).map fun b => (b, σ b))) := by
            refine ⟨fun b B hB => ?_, fun b b' B B' k c c' e e' e1 e2 => ?_⟩
            · obtain ⟨q1, q2, q3⟩ := hsub b B hB
              obtain ⟨k, c, e1, e2⟩ := hH.at_ b B (by rw [if_pos q2]; exact q3)
              have := hb2 b q2
              rw [q3] at this
              have this : closedB Rb 5 B = true := this
              exact ⟨k, c, by rw [cut_at (RbR b q1)]; exact e1, e2.cut this⟩
            · obtain ⟨q1, q2, q3⟩ := hsub b B e
              obtain ⟨p1, p2, p3⟩ := hsub b' B' e'
              exact hH.inj b b' B B' k c c' (by rw [if_pos q2]; exact q3) (by rw [if_pos p2]; exact p3) (cut_ext _ _ _ _ e1) (cut_ext _ _ _ _ e2)
          have hcalls := c3 (cut ι Rb) w _ kargs' hHs (fun b hb => RbN b (by
            cases hq : Rb b with
            | true => rfl
            | false => unfold cut at hb; rw [hq] at hb; exact absurd rfl hb)) (fun g hg => by rw [cut_at (RbG g hg)]; exact hG g hg)
          have hrun : (execOp a.eval o).run P w = .ok (.enter g ⟨c.args.toList.map a.eval ++ cs'⟩) w := by
            unfold execOp
            have e1 : ((#[] : Array Value) ++ c.args.map a.eval) ++ (⟨cs'⟩ : Array Value) = ⟨c.args.toList.map a.eval ++ cs'⟩ := Array.ext' (by simp)
            have f2' : fn.body.isNone = false := f2
            simp only [ho, resolve, hcal, ef, Deferred.ofValue, Sem.run_bind, Sem.run_pure, Result.andThen_ok, invoke, callFunc, run_program, f1, f3, f2', Bool.false_eq_true, if_false, e1]
          unfold Oper.wp
          rw [hrun]
          refine Calls.mono hcalls fun e w' hp' => ?_
          obtain ⟨v', ι', rfl, p1, p2, p3, p4⟩ := hp'
          have mer : Ext1 ι' (fun b => (ι b).or (ι' b)) := fun b x e => by
            cases hι : ι b with
            | none => simp only [hι, Option.none_or]; exact e
            | some y =>
              simp only [hι, Option.some_or]
              cases hq : Rb b with
              | true =>
                have := p4.ext b y (by rw [cut_at hq]; exact hι)
                rw [e] at this; exact this.symm
              | false =>
                have h0 : cut ι Rb b = none := by unfold cut; rw [hq]; rfl
                have h1 := p4.new b h0 (by rw [e]; simp)
                have h2 := p3 b (by rw [e]; simp)
                rw [hfr b h1 h2] at hι; cases hι
          have cutn : ∀ b, ι b = none → cut ι Rb b = none := fun b h => by unfold cut; split <;> first | exact h | rfl
          have lk : ∀ b B, look ((d.map fun b => (b, hp h' b)) ++ (h'.filter fun q => Nat.ble n q.1)) b = some (some B) → hp h' b = some B := fun b B hl => by
            rw [look_append] at hl
            cases h1 : look (d.map fun b => (b, hp h' b)) b with
            | some x =>
              rw [h1] at hl
              simp only [Option.some_or, Option.some.injEq] at hl
              obtain ⟨_, q⟩ := look_map (hp h') _ _ _ h1
              rw [← q]; exact hl
            | none =>
              rw [h1] at hl
              simp only [Option.none_or] at hl
              have := (look_filter (fun b => Nat.ble n b) h' b _ hl).2
              unfold hp; rw [this]; rfl
          have dk : ∀ b, b ∈ d → b ∈ keys ((d.map fun b => (b, hp h' b)) ++ (h'.filter fun q => Nat.ble n q.1)) := fun b hb => by
            unfold keys
            rw [List.map_append]
            exact List.mem_append_left _ (by have := keys_map (hp h') d; unfold keys at this; rw [this]; exact hb)
          refine hK (fun b => (ι b).or (ι' b)) v' w' ⟨p1.mono mer, fun b x e => by simp only [e, Option.some_or], fun b e e' => ?_, p4.size, fun k hk hno => p4.frame k hk fun b c hbd e => hno b c (dk b hbd) (cut_ext _ _ _ _ e), fun b B hl => ?_, fun b b' B B' k c c' hl hl' e e' => ?_, fun b k c e e' => ?_, p4.rest⟩
          · simp only [e, Option.none_or] at e'
            exact ⟨p4.new b (cutn b e) e', p3 b e'⟩
          · obtain ⟨k, c, q1, q2⟩ := p2.at_ b B (lk b B hl)
            exact ⟨k, c, mer _ _ q1, q2.mono mer rfl⟩
          · obtain ⟨k1, c1', q1, -⟩ := p2.at_ b B (lk b B hl)
            obtain ⟨k2, c2', r1, -⟩ := p2.at_ b' B' (lk b' B' hl')
            have e1 := mer _ _ q1
            have e2 := mer _ _ r1
            simp only at e1 e2 e e'
            rw [e] at e1; rw [e'] at e2
            simp only [Option.some.injEq, Prod.mk.injEq] at e1 e2
            obtain ⟨rfl, rfl⟩ := e1
            obtain ⟨rfl, rfl⟩ := e2
            exact p2.inj b b' B B' _ _ _ (lk b B hl) (lk b' B' hl') q1 r1
          · simp only [e, Option.none_or] at e'
            rcases p4.img b k c (cutn b e) e' with q | ⟨d0, c0, q1, q2⟩
            · exact .inl q
            · exact .inr ⟨d0, c0, hd d0 q1, dk d0 q1, cut_ext _ _ _ _ q2⟩
  · cases h
end
end Go.Ev
