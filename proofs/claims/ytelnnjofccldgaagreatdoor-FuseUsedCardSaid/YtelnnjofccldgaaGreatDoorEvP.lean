/-
  Evaluation of calls, part 8: slices of slices, lengths, nil, function values, aggregates put together. No program in sight.
-/
import Derived.Test.YtelnnjofccldgaaGreatDoorEvO
namespace Go.Ev
open Go
section
variable {P : Program} {G : Nat} {o : Oper} {ρ : Operand → Value} {σ : Hp} {n : Nat}

theorem run_sliceBound {i : Int} {k : IntKind} {y : Nat} {c : BoundsCode} {w : World} (h0 : 0 ≤ i) (h1 : i ≤ (y : Int)) : (Instr.sliceBound (.int k i) y c).run P w = .ok i.toNat w := by
  unfold Instr.sliceBound
  simp only [asIntOf, Sem.run_bind, Sem.run_pure, Result.andThen_ok]
  rw [if_pos ⟨h0, h1⟩]
  rfl
def bnd (ρ : Operand → Value) (x : Option Operand) (d : Nat) : Option Nat :=
  match x with
  | none => some d
  | some x => match ρ x with | .int _ i => bif decide (0 ≤ i) then some i.toNat else none | _ => none
theorem bnd_ok {ι : Img} {a : Act} {x : Option Operand} {d k : Nat} (h : bnd ρ x d = some k) (hx : ∀ y, x = some y → VR ι (ρ y) (a.eval y)) :
    (x = none ∧ k = d) ∨ ∃ y ik i, x = some y ∧ a.eval y = .int ik i ∧ 0 ≤ i ∧ k = i.toNat := by
  cases x with
  | none => simp only [bnd, Option.some.injEq] at h; exact .inl ⟨rfl, h.symm⟩
  | some y =>
    simp only [bnd] at h
    split at h
    · rename_i ik i hi
      cases hb : decide (0 ≤ i) with
      | false => rw [hb] at h; cases h
      | true =>
        rw [hb] at h
        simp only [cond_true, Option.some.injEq] at h
        have := hx y rfl
        rw [hi] at this
        exact .inr ⟨y, ik, i, rfl, this.plain_eq rfl, by simpa using hb, h.symm⟩
    · cases h
/-- x[l:h] of a slice -/
def evSlice (P : Program) (t : TypeId) (ρ : Operand → Value) (x : Operand) (lo hi : Option Operand) (σ : Hp) (n : Nat) : Option Eff :=
  match pureRun P (underlying t), ρ x with
  | some (.slice e), .slice (some ⟨b, off, none⟩) len cap => match bnd ρ lo 0, bnd ρ hi len, pureRun P (sizeOf e) with
    | some l, some h, some k =>
      bif decide (l ≤ h) && decide (h ≤ len) && decide (l < cap) then
        bif decide (l < len) || decide (l = 0) then some ⟨.slice (some ⟨b, off + l * k, none⟩) (h - l) (cap - l), [], [], n, n⟩
        else match σ b with
          | some (.row _ _ _ true) => some ⟨.slice (some ⟨b, off + l * k, none⟩) (h - l) (cap - l), [b], [], n, n⟩
          | _ => none
      else bif decide (l = h) && decide (h = len) && decide (l = cap) then (match σ b with
          | some (.row _ _ _ true) => some ⟨.slice (some ⟨b, off, none⟩) 0 0, [b], [], n, n⟩
          | _ => none) else none
    | _, _, _ => none
  | _, _ => none
theorem run_slice {t e : TypeId} {k len cap l h : Nat} {ad : Option Addr} {lo hi : Option Operand} {a : Act} {w : World} (hu : pureRun P (underlying t) = some (.slice e)) (hk : pureRun P (sizeOf e) = some k)
    (hl : (lo = none ∧ l = 0) ∨ ∃ y ik i, lo = some y ∧ a.eval y = .int ik i ∧ 0 ≤ i ∧ l = i.toNat) (hh : (hi = none ∧ h = len) ∨ ∃ y ik i, hi = some y ∧ a.eval y = .int ik i ∧ 0 ≤ i ∧ h = i.toNat) (h1 : l ≤ h) (h2 : h ≤ cap) :
    (Instr.sliceAt t (.slice ad len cap) (lo.map a.eval) (hi.map a.eval) none).run P w = .ok (.slice (if cap = l then ad else ad.map (·.add (l * k))) (h - l) (cap - l)) w := by
  unfold Instr.sliceAt
  simp only [Sem.run_bind, pureRun_run hu w, Result.andThen_ok]
  unfold Instr.slice
  simp only [Sem.run_bind, pureRun_run hu w, Result.andThen_ok]
  have e1 : (Instr.sliceBounds true len cap (lo.map a.eval) (hi.map a.eval) none).run P w = .ok (l, h, cap) w := by
    unfold Instr.sliceBounds
    simp only [Sem.run_bind, Sem.run_pure, Result.andThen_ok, Option.isSome_none]
    rcases hh with ⟨rfl, rfl⟩ | ⟨y, ik, i, rfl, ei, i0, rfl⟩
    · simp only [Option.map_none, Sem.run_bind, Sem.run_pure, Result.andThen_ok]
      rcases hl with ⟨rfl, rfl⟩ | ⟨y, ik, i, rfl, ei, i0, rfl⟩
      · simp only [Option.map_none, Sem.run_bind, Sem.run_pure, Result.andThen_ok]
      · simp only [Option.map_some, Sem.run_bind, ei, run_sliceBound i0 (show i ≤ (h : Int) by omega), Result.andThen_ok, Sem.run_pure]
    · simp only [Option.map_some, Sem.run_bind, ei, run_sliceBound i0 (show i ≤ (cap : Int) by omega), Result.andThen_ok]
      rcases hl with ⟨rfl, rfl⟩ | ⟨y', ik', i', rfl, ei', i0', rfl⟩
      · simp only [Option.map_none, Sem.run_bind, Sem.run_pure, Result.andThen_ok]
      · simp only [Option.map_some, Sem.run_bind, ei', run_sliceBound i0' (show i' ≤ (i.toNat : Int) by omega), Result.andThen_ok, Sem.run_pure]
  rw [e1]
  simp only [Result.andThen_ok, pureRun_run hk w, Sem.run_pure]
theorem evSlice_ok {t : TypeId} {x : Operand} {lo hi : Option Operand} {E : Eff} (ho : o.op = .slice t x lo hi none) (h : evSlice P t ρ x lo hi σ n = some E) : OpOK P G o ρ σ E ∧ E.lo = n ∧ n ≤ E.hi := by
  unfold evSlice at h
  split at h
  · rename_i e b off len cap hu hx
    split at h
    · rename_i l hh k hl hhh hk
      have fin : ∀ (rd : List Nat) (ad : Nat) (cp ln : Nat), (l ≤ hh ∧ hh ≤ len) → ln = hh - l → cp = cap - l →
          (∀ (ι : Img) (w : World) (k' c cap' : Nat), HR ι w (fun b => if b ∈ rd then σ b else none) → ι b = some (k', c) → cap' + big = cap + c → len ≤ cap' → (if cap' = l then off else off + l * k) = ad ∧ (cap' - l) + big = cp + c) → OpOK P G o ρ σ ⟨.slice (some ⟨b, ad, none⟩) ln cp, rd, [], n, n⟩ := by
        rintro rd ad cp ln ⟨q1, q2⟩ rfl rfl hadr
        refine ok_val fun ι a w hv hH => ?_
        have hc := hv x (by simp [ho, Op.operands])
        rw [hx] at hc
        obtain ⟨k', c, cap', e', hi', hcp, hle⟩ := hc.slice_inv
        obtain ⟨r1, r2⟩ := hadr ι w k' c cap' hH hi' hcp hle
        refine ⟨.slice (some ⟨k', ad, none⟩) (hh - l) (cap' - l), .slice hi' r2 (by omega), ?_⟩
        have hr := run_slice (P := P) (ad := some ⟨k', off, none⟩) (len := len) (cap := cap') (a := a) (w := w) hu hk (bnd_ok hl fun y hy => hv y (by simp [ho, Op.operands, hy])) (bnd_ok hhh fun y hy => hv y (by simp [ho, Op.operands, hy])) q1 (by omega)
        unfold execOp
        simp only [ho, e', Sem.run_bind]
        refine (congrArg (fun r => Result.andThen r _) hr).trans ?_
        simp only [Result.andThen_ok, Sem.run_pure]
        congr 3
        rw [← r1]
        split
        · rfl
        · simp [add_eq]
      cases hb : (decide (l ≤ hh) && decide (hh ≤ len) && decide (l < cap)) with
      | true =>
        rw [hb] at h
        simp only [cond_true] at h
        simp only [Bool.and_eq_true, decide_eq_true_eq] at hb
        cases hb2 : (decide (l < len) || decide (l = 0)) with
        | true =>
          rw [hb2] at h
          simp only [cond_true, Option.some.injEq] at h
          subst h
          simp only [Bool.or_eq_true, decide_eq_true_eq] at hb2
          refine ⟨fin [] _ _ _ hb.1 rfl rfl fun ι w k' c cap' _ _ hcp hle => ⟨?_, by omega⟩, rfl, Nat.le_refl _⟩
          split
          · have : l = 0 := by omega
            subst this; simp
          · rfl
        | false =>
          rw [hb2] at h
          simp only [cond_false] at h
          split at h
          · rename_i cs e' sz hs
            simp only [Option.some.injEq] at h
            subst h
            refine ⟨fin [b] _ _ _ hb.1 rfl rfl fun ι w k' c cap' hH hi' hcp hle => ?_, rfl, Nat.le_refl _⟩
            obtain ⟨k2, c2, e1, A, -, -, -, hex, -⟩ := hH.at_ b _ (by simpa using hs)
            rw [hi'] at e1
            simp only [Option.some.injEq, Prod.mk.injEq] at e1
            obtain ⟨rfl, rfl⟩ := e1
            have hcb := (hex rfl).1
            exact ⟨if_neg (by omega), by omega⟩
          · cases h
      | false =>
        rw [hb] at h
        simp only [cond_false] at h
        cases hb2 : (decide (l = hh) && decide (hh = len) && decide (l = cap)) with
        | false => rw [hb2] at h; cases h
        | true =>
          rw [hb2] at h
          simp only [cond_true] at h
          simp only [Bool.and_eq_true, decide_eq_true_eq] at hb2
          split at h
          · rename_i cs e' sz hs
            simp only [Option.some.injEq] at h
            subst h
            refine ⟨fin [b] _ _ _ (by omega) (by omega) (by omega) fun ι w k' c cap' hH hi' hcp hle => ?_, rfl, Nat.le_refl _⟩
            obtain ⟨k2, c2, e1, A, -, -, -, hex, -⟩ := hH.at_ b _ (by simpa using hs)
            rw [hi'] at e1
            simp only [Option.some.injEq, Prod.mk.injEq] at e1
            obtain ⟨rfl, rfl⟩ := e1
            have hcb := (hex rfl).1
            exact ⟨if_pos (by omega), by omega⟩
          · cases h
    · cases h
  · cases h

/-- len of a slice -/
def evLen (P : Program) (ts : Array TypeId) (x : Value) (n : Nat) : Option Eff :=
  match ts[0]? with
  | some t => match pureRun P (underlying t), x with
    | some (.slice _), .slice _ k _ => some ⟨.int .i64 k, [], [], n, n⟩
    | _, _ => none
  | none => none
theorem evLen_ok {x : Operand} {ts : Array TypeId} {E : Eff} (ho : o.op = .call { callee := .builtin .len, args := #[x], argTypes := ts }) (h : evLen P ts (ρ x) n = some E) : OpOK P G o ρ σ E ∧ E.lo = n ∧ n ≤ E.hi := by
  unfold evLen at h
  split at h
  · rename_i t ht
    split at h
    · rename_i e ad k cap hu hx
      simp only [Option.some.injEq] at h
      subst h
      refine ⟨ok_val fun ι a w hv _ => ⟨.int .i64 k, .same rfl, ?_⟩, rfl, Nat.le_refl _⟩
      have hc := hv x (by simp [ho, Op.operands, Call.operands])
      rw [hx] at hc
      have : ∃ ad' cap', a.eval x = .slice ad' k cap' := by
        generalize a.eval x = u at hc
        cases hc with
        | same p => exact ⟨_, _, rfl⟩
        | slice e1 e2 e3 => exact ⟨_, _, rfl⟩
      obtain ⟨ad', cap', e'⟩ := this
      unfold execOp
      simp only [ho, resolve, invoke, builtin, Builtin.len_, Sem.run_bind, Sem.run_pure, Result.andThen_ok, ht, List.map_toArray, List.map_cons, List.map_nil, e']
      have h0 : (#[Value.slice ad' k cap'] : Array Value)[0]? = some (.slice ad' k cap') := rfl
      simp only [h0, Sem.run_bind, pureRun_run hu w, Result.andThen_ok, Sem.run_pure, goInt]
    · cases h
  · cases h

/-- comparison with nil -/
def nilEq : TypeDesc → Value → Value → Option Bool
  | .slice _, .slice none _ _, .slice b _ _ => some b.isNone
  | .slice _, .slice (some _) _ _, .slice none _ _ => some false
  | .pointer _, .pointer none, .pointer b => some b.isNone
  | .pointer _, .pointer (some _), .pointer none => some false
  | .map _ _, .map none, .map b => some b.isNone
  | .map _ _, .map (some _), .map none => some false
  | .func _ _ _, .nilFunc, .func _ _ _ => some false
  | .func _ _ _, .func _ _ _, .nilFunc => some false
  | _, _, _ => none
theorem nilEq_ok {d : TypeDesc} {x y x' y' : Value} {b : Bool} {ι : Img} (h : nilEq d x y = some b) (hx : VR ι x x') (hy : VR ι y y') : nilEq d x' y' = some b := by
  unfold nilEq at h
  split at h <;> cases hx <;> cases hy <;> simp_all [nilEq, plain]
theorem nilEq_run {t : TypeId} {d : TypeDesc} {x y : Value} {b : Bool} (hu : pureRun P (underlying t) = some d) (h : nilEq d x y = some b) (w : World) : (Op.equal t x y).run P w = .ok b w := by
  unfold Op.equal Op.maxDepth Op.equalIn
  simp only [Sem.run_bind, pureRun_run hu w, Result.andThen_ok]
  unfold nilEq at h
  split at h <;> simp_all [Sem.run_pure]
def evNil (P : Program) (op : BinOp) (t : TypeId) (x y : Value) (n : Nat) : Option Eff :=
  match pureRun P (underlying t) with
  | some d => match nilEq d x y, op with
    | some b, .eql => some ⟨.bool b, [], [], n, n⟩
    | some b, .neq => some ⟨.bool (!b), [], [], n, n⟩
    | _, _ => none
  | none => none
theorem nilEq_guard {op : BinOp} {t : TypeId} {x y : Operand} {d : TypeDesc} {a b : Value} {r : Bool} (h : nilEq d a b = some r) (w : World) : (eqGuard op t x y a b).run P w = .ok () w := by
  unfold nilEq at h
  split at h <;> first | (cases h; done) | (unfold eqGuard; cases op <;> simp [Sem.run_pure])
theorem nilEq_bin {op : BinOp} {t : TypeId} {d : TypeDesc} {x y : Value} {b : Bool} (hu : pureRun P (underlying t) = some d) (h : nilEq d x y = some b) (w : World) :
    (op = .eql → (binOp op t x y).run P w = .ok (.bool b) w) ∧ (op = .neq → (binOp op t x y).run P w = .ok (.bool (!b)) w) := by
  have e := nilEq_run hu h w
  unfold nilEq at h
  constructor
  · rintro rfl
    split at h <;> first | (cases h; done) | (simp only [binOp, Sem.run_bind, e, Result.andThen_ok, Sem.run_pure])
  · rintro rfl
    split at h <;> first | (cases h; done) | (simp only [binOp, Sem.run_bind, e, Result.andThen_ok, Sem.run_pure])
theorem evNil_ok {op : BinOp} {t ty : TypeId} {x y : Operand} {E : Eff} (ho : o.op = .binOp op t x y ty) (h : evNil P op t (ρ x) (ρ y) n = some E) : OpOK P G o ρ σ E ∧ E.lo = n ∧ n ≤ E.hi := by
  unfold evNil at h
  split at h
  · rename_i d hu
    have go : ∀ (b r : Bool), nilEq d (ρ x) (ρ y) = some b → (∀ (x' y' : Value), nilEq d x' y' = some b → ∀ w, (binOp op t x' y').run P w = .ok (.bool r) w) → OpOK P G o ρ σ ⟨.bool r, [], [], n, n⟩ := fun b r hb hrun =>
      ok_val fun ι a w hv _ => by
        have hq := nilEq_ok hb (hv x (by simp [ho, Op.operands])) (hv y (by simp [ho, Op.operands]))
        refine ⟨.bool r, .same rfl, ?_⟩
        unfold execOp
        simp only [ho, Sem.run_bind, nilEq_guard hq, Result.andThen_ok, hrun _ _ hq, Sem.run_pure]
    split at h
    · rename_i b hb
      simp only [Option.some.injEq] at h
      subst h
      exact ⟨go b b hb fun x' y' hq w => (nilEq_bin hu hq w).1 rfl, rfl, Nat.le_refl _⟩
    · rename_i b hb
      simp only [Option.some.injEq] at h
      subst h
      exact ⟨go b (!b) hb fun x' y' hq w => (nilEq_bin hu hq w).2 rfl, rfl, Nat.le_refl _⟩
    · cases h
  · cases h

theorem VRs.map {ι : Img} {f g : Operand → Value} : ∀ {l : List Operand}, (∀ x ∈ l, VR ι (f x) (g x)) → VRs ι (l.map f) (l.map g)
  | [], _ => .nil
  | x :: l, h => .cons (h x (by simp)) (VRs.map fun y hy => h y (by simp [hy]))
theorem ok_makeFunc {f : FuncId} {cap : Array Operand} (ho : o.op = .makeFunc (.func f) #[] cap) : OpOK P G o ρ σ ⟨.func (.func f) #[] ⟨cap.toList.map ρ⟩, [], [], n, n⟩ :=
  ok_val fun ι a w hv _ => by
    refine ⟨.func (.func f) #[] ⟨cap.toList.map a.eval⟩, .func (VRs.map fun x hx => hv x (by simp [ho, Op.operands]; simpa using hx)), ?_⟩
    unfold execOp
    simp only [ho, Instr.makeFunc, Sem.run_bind, Sem.run_pure, Result.andThen_ok]
    congr 3
    all_goals first
      | (apply Array.ext'; simp; done)
      | simp

/-- a struct put together -/
def fillL (pl : Nat → Option (Nat × Nat)) (cells : List Value) : List (Nat × Value) → Option (List Value)
  | [] => some cells
  | (i, v) :: rest => match pl i with
    | none => none
    | some (off, size) => let c := v.cells.toList
      bif Nat.beq c.length size && Nat.ble (off + size) cells.length then fillL pl (cells.take off ++ c ++ cells.drop (off + size)) rest else none
theorem VR.cells {ι : Img} {v v' : Value} (h : VR ι v v') : VRs ι v.cells.toList v'.cells.toList := by
  cases h with
  | same p => cases v <;> first | (simp [plain] at p; done) | exact .cons (.same p) .nil
  | ptr e => exact .cons (.ptr e) .nil
  | slice e1 e2 e3 => exact .cons (.slice e1 e2 e3) .nil
  | map e => exact .cons (.map e) .nil
  | func k => exact .cons (.func k) .nil
  | agg k => exact k
  | tuple k => exact .cons (.tuple k) .nil
theorem foldl_seg (off : Nat) : ∀ (l : List Value) (k : Nat) (cells : Array Value), off + k + l.length ≤ cells.size →
    (l.zipIdx k).foldl (fun cs (p : Value × Nat) => cs.setIfInBounds (off + p.2) p.1) cells = ⟨cells.toList.take (off + k) ++ l ++ cells.toList.drop (off + k + l.length)⟩
  | [], k, cells, _ => by
    apply Array.ext'
    simp
  | v :: l, k, cells, h => by
    simp only [List.length_cons] at h
    rw [List.zipIdx_cons, List.foldl_cons]
    simp only
    rw [foldl_seg off l (k + 1) _ (by simp; omega)]
    apply Array.ext'
    simp only [Array.toList_setIfInBounds]
    have := list_seg_step cells.toList (off + k) v l (by simp; omega)
    rw [show off + (k + 1) = off + k + 1 by omega, List.length_cons]
    exact this
theorem fillL_ok {ι : Img} {pl : Nat → Option (Nat × Nat)} {place : Nat → Option (Nat × Nat)} (hp : ∀ i, place i = pl i) : ∀ {ps ps' : List (Nat × Value)} {cells cells' r : List Value}, fillL pl cells ps = some r → VRs ι cells cells' → ps.map (·.1) = ps'.map (·.1) → VRs ι (ps.map (·.2)) (ps'.map (·.2)) →
    ∃ r', Instr.fill place ⟨cells'⟩ ps' = some ⟨r'⟩ ∧ VRs ι r r'
  | [], ps', cells, cells', r, h, hc, h1, _ => by
    have : ps' = [] := by simpa using h1.symm
    subst this
    simp only [fillL, Option.some.injEq] at h
    subst h
    exact ⟨cells', rfl, hc⟩
  | (i, v) :: ps, ps', cells, cells', r, h, hc, h1, h2 => by
    match ps', h1, h2 with
    | (i', v') :: ps', h1, h2 =>
      simp only [List.map_cons, List.cons.injEq] at h1 h2
      obtain ⟨rfl, h1⟩ := h1
      cases h2 with
      | cons hv h2 =>
        unfold fillL at h
        unfold Instr.fill
        rw [hp]
        cases hpl : pl i with
        | none => rw [hpl] at h; cases h
        | some q =>
          obtain ⟨off, size⟩ := q
          rw [hpl] at h
          simp only at h ⊢
          cases hb : (Nat.beq v.cells.toList.length size && Nat.ble (off + size) cells.length) with
          | false => rw [hb] at h; cases h
          | true =>
            rw [hb] at h
            simp only [cond_true] at h
            simp only [Bool.and_eq_true] at hb
            have hb1 := Nat.eq_of_beq_eq_true hb.1
            have hb2 := Nat.le_of_ble_eq_true hb.2
            have hvc := hv.cells
            have hl1 := hvc.length
            have hl2 := hc.length
            have hsz : v'.cells.size = size := by rw [← Array.length_toList]; omega
            rw [if_neg (by rw [hsz]; simp; omega)]
            have e : v'.cells.zipIdx.foldl (fun cs (p : Value × Nat) => cs.setIfInBounds (off + p.2) p.1) (⟨cells'⟩ : Array Value) = ⟨cells'.take off ++ v'.cells.toList ++ cells'.drop (off + size)⟩ := by
              rw [← Array.foldl_toList, Array.toList_zipIdx]
              have := foldl_seg off v'.cells.toList 0 ⟨cells'⟩ (by simp; omega)
              simpa [hsz] using this
            have e2 : (Array.foldl (fun cs (x : Value × Nat) => match x with | (c, j) => cs.setIfInBounds (off + j) c) (⟨cells'⟩ : Array Value) v'.cells.zipIdx) = v'.cells.zipIdx.foldl (fun cs (p : Value × Nat) => cs.setIfInBounds (off + p.2) p.1) (⟨cells'⟩ : Array Value) := rfl
            rw [e2, e]
            exact fillL_ok hp h (((hc.take off).append hvc).append (hc.drop (off + size))) h1 h2
def placesL (P : Program) : List Field → Option (List (Nat × Nat))
  | [] => some []
  | f :: l => (pureRun P (sizeOf f.type)).bind fun k => (placesL P l).map fun r => (f.offset, k) :: r
theorem placesL_ok {w : World} : ∀ {l : List Field} {r : List (Nat × Nat)}, placesL P l = some r → (l.mapM fun (f : Field) => (do pure (f.offset, ← sizeOf f.type) : Sem (Nat × Nat))).run P w = .ok r w
  | [], r, h => by simp only [placesL, Option.some.injEq] at h; subst h; rw [List.mapM_nil]; rfl
  | f :: l, r, h => by
    simp only [placesL] at h
    cases hk : pureRun P (sizeOf f.type) with
    | none => rw [hk] at h; cases h
    | some k =>
      rw [hk] at h
      simp only [Option.bind_some] at h
      cases hl : placesL P l with
      | none => rw [hl] at h; cases h
      | some r1 =>
        rw [hl] at h
        simp only [Option.map_some, Option.some.injEq] at h
        subst h
        rw [List.mapM_cons]
        simp only [Sem.run_bind, pureRun_run hk w, Result.andThen_ok, Sem.run_pure, placesL_ok hl]
def evBuild (P : Program) (t : TypeId) (ps : List (Nat × Value)) (n : Nat) : Option Eff :=
  match pureRun P (underlying t), pureRun P (zeroValue t) with
  | some (.struct fs), some z => bif z.cells.toList.all (free 2) then (placesL P fs.toList).bind fun pl => (fillL (fun i => pl[i]?) z.cells.toList ps).map fun r => ⟨.agg ⟨r⟩, [], [], n, n⟩ else none
  | _, _ => none
theorem frees_refl {ι : Img} : ∀ {l : List Value}, l.all (free 2) = true → VRs ι l l
  | [], _ => .nil
  | v :: l, h => by
    simp only [List.all_cons, Bool.and_eq_true] at h
    exact .cons (free_refl h.1) (frees_refl h.2)
theorem evBuild_ok {t : TypeId} {ps : Array (Nat × Operand)} {E : Eff} (ho : o.op = .build t ps) (h : evBuild P t (ps.toList.map fun p => (p.1, ρ p.2)) n = some E) : OpOK P G o ρ σ E ∧ E.lo = n ∧ n ≤ E.hi := by
  unfold evBuild at h
  split at h
  · rename_i fs z hu hz
    cases hf : z.cells.toList.all (free 2) with
    | false => rw [hf] at h; cases h
    | true =>
      rw [hf] at h
      simp only [cond_true] at h
      cases hpl : placesL P fs.toList with
      | none => rw [hpl] at h; cases h
      | some pl =>
        rw [hpl] at h
        simp only [Option.bind_some] at h
        cases hr : fillL (fun i => pl[i]?) z.cells.toList (ps.toList.map fun p => (p.1, ρ p.2)) with
        | none => rw [hr] at h; cases h
        | some r =>
          rw [hr] at h
          simp only [Option.map_some, Option.some.injEq] at h
          subst h
          refine ⟨ok_val fun ι a w hv _ => ?_, rfl, Nat.le_refl _⟩
          obtain ⟨r', h1, h2⟩ := fillL_ok (place := fun i => pl.toArray[i]?) (fun i => List.getElem?_toArray) (ps' := ps.toList.map fun p => (p.1, a.eval p.2)) hr (frees_refl (ι := ι) hf) (by simp [List.map_map, Function.comp_def]) (by
            simp only [List.map_map, Function.comp_def]
            have : ∀ (l : List (Nat × Operand)), (∀ p ∈ l, VR ι (ρ p.2) (a.eval p.2)) → VRs ι (l.map fun p => ρ p.2) (l.map fun p => a.eval p.2) := by
              intro l
              induction l with
              | nil => intro _; exact .nil
              | cons p l ih => intro h; exact .cons (h p (by simp)) (ih fun q hq => h q (by simp [hq]))
            exact this _ fun p hp => hv p.2 (by simp only [ho, Op.operands]; simp; exact ⟨p.1, by simpa using hp⟩))
          refine ⟨.agg ⟨r'⟩, .agg h2, ?_⟩
          unfold execOp
          simp only [ho, Instr.build, Sem.run_bind, pureRun_run hz w, Result.andThen_ok, pureRun_run hu w]
          have hm : (fs.mapM fun (f : Field) => (do pure (f.offset, ← sizeOf f.type) : Sem (Nat × Nat))).run P w = .ok pl.toArray w := by
            rw [Array.mapM_eq_mapM_toList]
            have e : (Bind.bind (fs.toList.mapM fun (f : Field) => (do pure (f.offset, ← sizeOf f.type) : Sem (Nat × Nat))) (fun l => (pure (List.toArray l) : Sem (Array (Nat × Nat))))).run P w = .ok pl.toArray w := by
              rw [Sem.run_bind, placesL_ok hpl]; rfl
            exact e
          refine (congrArg (fun r => Result.andThen r _) (congrArg (fun r => Result.andThen r _) hm)).trans ?_
          simp only [Result.andThen_ok]
          have h3 : Instr.fill (fun i => (pl.toArray)[i]?) z.cells ((ps.map fun (x : Nat × Operand) => (x.1, a.eval x.2)).toList) = some ⟨r'⟩ := by
            rw [Array.toList_map]
            exact h1
          simp only [h3, Sem.run_pure, Result.andThen_ok]
  · cases h
end
end Go.Ev
