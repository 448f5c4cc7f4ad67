/-
  Evaluation of calls, part 12b: maps, copy, checks of pointers. No program in sight.
-/
import Derived.Test.YtelnnjofccldgaaGreatDoorEvB
namespace Go.Ev
open Go
section
variable {P : Program} {G : Nat} {o : Oper} {ρ : Operand → Value} {σ : Hp} {n : Nat}

def evNilCheck (x : Value) (n : Nat) : Option Eff :=
  match x with
  | .pointer (some a) => some ⟨.pointer (some a), [], [], n, n⟩
  | .func (.func f) fst cs => some ⟨.func (.func f) fst cs, [], [], n, n⟩
  | _ => none
theorem evNilCheck_ok {x : Operand} {E : Eff} (ho : o.op = .nilCheck x) (h : evNilCheck (ρ x) n = some E) : OpOK P G o ρ σ E ∧ E.lo = n ∧ n ≤ E.hi := by
  unfold evNilCheck at h
  split at h
  · rename_i ad hx
    simp only [Option.some.injEq] at h
    subst h
    refine ⟨ok_val fun ι a w hv _ => ?_, rfl, Nat.le_refl _⟩
    have hc := hv x (by simp [ho, Op.operands])
    rw [hx] at hc
    obtain ⟨b, off, s⟩ := ad
    obtain ⟨k, c, e, hi⟩ := hc.ptr_inv
    refine ⟨_, .ptr hi, ?_⟩
    unfold execOp
    simp only [ho, e, Sem.run_pure]
  · rename_i f fst cs hx
    simp only [Option.some.injEq] at h
    subst h
    refine ⟨ok_val fun ι a w hv _ => ?_, rfl, Nat.le_refl _⟩
    have hc := hv x (by simp [ho, Op.operands])
    rw [hx] at hc
    refine ⟨a.eval x, hc, ?_⟩
    have : ∃ cs', a.eval x = .func (.func f) #[] ⟨cs'⟩ := by
      generalize a.eval x = u at hc
      cases hc with
      | same p => simp [plain] at p
      | func k => exact ⟨_, rfl⟩
    obtain ⟨cs', e⟩ := this
    unfold execOp
    simp only [ho, e, Sem.run_pure]
  · cases h

theorem Step.put' {ι : Img} {w : World} {b k c n : Nat} {B : Blk} {ob : Obj} {v v' : Value} {rd : List Nat} (hi : ι b = some (k, c)) (hB : BR ι { w with heap := w.heap.setIfInBounds k ob } k c B) (hv : VR ι v v') :
    Step ι w ι { w with heap := w.heap.setIfInBounds k ob } ⟨v, rd, [(b, some B)], n, n⟩ v' :=
  Step.put hi (by simp) (fun j hj => by simp [Array.getElem?_setIfInBounds_ne (Ne.symm hj)]) ⟨rfl, rfl, rfl⟩ hB hv

/-- where a key lies -/
def findA (d : TypeDesc) (k : Value) : List Value → Nat → Option (Option Nat)
  | [], _ => some none
  | x :: l, i => match Instr.sameNow d k x with
    | some true => some (some i)
    | some false => findA d k l (i + 1)
    | none => none
theorem findA_now {d : TypeDesc} {k : Value} : ∀ {E : List MapEntry} {i : Nat} {r : Option Nat}, findA d k (E.map (·.key)) i = some r → Instr.findNow d k E i = some (r.bind fun j => (E[j - i]?).map fun (e : MapEntry) => (j, e.val)) ∧ ∀ j, r = some j → i ≤ j ∧ j < i + E.length
  | [], i, r, h => by
    simp only [List.map_nil, findA, Option.some.injEq] at h
    subst h
    exact ⟨rfl, fun j h => by cases h⟩
  | e :: E, i, r, h => by
    simp only [List.map_cons, findA] at h
    unfold Instr.findNow
    split at h
    · rename_i hs
      simp only [Option.some.injEq] at h
      subst h
      rw [hs]
      exact ⟨by simp, fun j h => by simp only [Option.some.injEq] at h; subst h; simp⟩
    · rename_i hs
      rw [hs]
      obtain ⟨h1, h2⟩ := findA_now h
      refine ⟨?_, fun j hj => ?_⟩
      · simp only
        rw [h1]
        cases r with
        | none => rfl
        | some j =>
          have := h2 j rfl
          simp only [Option.bind_some]
          rw [show j - i = (j - (i + 1)) + 1 by omega, List.getElem?_cons_succ]
      · have := h2 j hj
        simp only [List.length_cons]; omega
    · cases h
theorem run_findKey {kt : TypeId} {d : TypeDesc} {k : Value} {E : List MapEntry} {r : Option Nat} (hu : pureRun P (underlying kt) = some d) (h : findA d k (E.map (·.key)) 0 = some r) (w : World) :
    (Instr.findKey kt k E).run P w = .ok (r.bind fun j => (E[j]?).map fun (e : MapEntry) => (j, e.val)) w := by
  obtain ⟨h1, -⟩ := findA_now h
  unfold Instr.findKey
  simp only [Sem.run_bind, pureRun_run hu w, Result.andThen_ok, h1, Nat.sub_zero, Sem.run_pure]
theorem run_getObj {k : Nat} {E : List MapEntry} {cl : Nat} {w : World} (h : w.heap[k]? = some (.map ⟨E⟩ cl)) : (getObj k).run P w = .ok (.map ⟨E⟩ cl) w := by
  unfold getObj
  simp only [Sem.run, h]
theorem run_setObj {k : Nat} {E : List MapEntry} {cl : Nat} {ob : Obj} {w : World} (h : w.heap[k]? = some (.map ⟨E⟩ cl)) : (setObj k ob).run P w = .ok () { w with heap := w.heap.setIfInBounds k ob } := by
  unfold setObj
  simp only [Sem.run, h]

theorem VR.map_inv {ι : Img} {r : Nat} {u : Value} (h : VR ι (.map (some r)) u) : ∃ k c, u = .map (some k) ∧ ι r = some (k, c) := by
  cases h with
  | same p => simp [plain] at p
  | map e => exact ⟨_, _, rfl, e⟩
/-- a map that is looked at -/
theorem map_at {ι : Img} {w : World} {rd : List Nat} {b : Nat} {ks vs : List Value} {born : List Nat} {cl : Nat} (hH : HR ι w (fun b => if b ∈ rd then σ b else none)) (hb : b ∈ rd) (hs : σ b = some (.map ks vs born cl)) {k c : Nat} (hi : ι b = some (k, c)) :
    ∃ E : List MapEntry, w.heap[k]? = some (.map ⟨E⟩ cl) ∧ c = big ∧ E.map (·.key) = ks ∧ ks.all plain = true ∧ VRs ι vs (E.map (·.val)) ∧ E.map (·.born) = born := by
  obtain ⟨k2, c2, e1, q⟩ := hH.at_ b _ (by simpa [hb] using hs)
  rw [hi] at e1
  simp only [Option.some.injEq, Prod.mk.injEq] at e1
  obtain ⟨rfl, rfl⟩ := e1
  exact q

theorem ok_makeMap {t : TypeId} (ho : o.op = .makeMap t none) : OpOK P G o ρ σ ⟨.map (some n), [], [(n, some (.map [] [] [] 0))], n, n + 1⟩ := by
  intro ι a w _ _ hfr _ _ K Q hK
  have hn : ι n = none := hfr n (Nat.le_refl _) (Nat.lt_succ_self _)
  have hr : (execOp a.eval o).run P w = .ok (.value (.map (some w.heap.size))) (w.alloc (.map #[] 0)) := by
    unfold execOp
    simp only [ho, Instr.makeMap, Option.map_none, Sem.run_bind, run_newObj_alloc, Result.andThen_ok, Sem.run_pure]
  unfold Oper.wp
  rw [hr]
  exact hK _ _ _ (Step.fresh (kills := []) (c := big) hn (NewB.alloc w _) ⟨[], (NewB.alloc w _).new, rfl, rfl, rfl, .nil, rfl⟩ (.map (put1_at _ _ _ _)))

def evLookup (P : Program) (t : TypeId) (x k : Value) (ok : Bool) (σ : Hp) (n : Nat) : Option Eff :=
  match pureRun P (underlying t), x with
  | some (.map kt et), .map (some r) => match σ r, pureRun P (underlying kt), pureRun P (zeroValue et) with
    | some (.map ks vs _ _), some d, some z => match pureRun P (Instr.checkKey ks.isEmpty 10000 kt k), findA d k ks 0 with
      | some _, some q => bif plain k && free 2 z then
          let v := match q with | some j => vs.getD j z | none => z
          some ⟨bif ok then .tuple ⟨[v, .bool q.isSome]⟩ else v, [r], [], n, n⟩
        else none
      | _, _ => none
    | _, _, _ => none
  | _, _ => none
theorem evLookup_ok {t : TypeId} {x y : Operand} {ok : Bool} {E : Eff} (ho : o.op = .lookup t x y ok) (h : evLookup P t (ρ x) (ρ y) ok σ n = some E) : OpOK P G o ρ σ E ∧ E.lo = n ∧ n ≤ E.hi := by
  unfold evLookup at h
  split at h
  · rename_i kt et r hu hx
    split at h
    · rename_i ks vs born cl d z hs hd hz
      split at h
      · rename_i u q hck hq
        cases hb : (plain (ρ y) && free 2 z) with
        | false => rw [hb] at h; cases h
        | true =>
          rw [hb] at h
          simp only [cond_true, Option.some.injEq] at h
          subst h
          simp only [Bool.and_eq_true] at hb
          refine ⟨ok_val fun ι a w hv hH => ?_, rfl, Nat.le_refl _⟩
          have hc := hv x (by simp [ho, Op.operands])
          have hk := (hv y (by simp [ho, Op.operands])).plain_eq hb.1
          rw [hx] at hc
          obtain ⟨k, c, e', hi⟩ := hc.map_inv
          obtain ⟨E, m1, -, m2, m3, m4, m5⟩ := map_at hH (by simp) hs hi
          subst m2
          have hf := run_findKey (P := P) hd hq w
          have hlen : vs.length = E.length := by rw [m4.length]; simp
          have hem : (⟨E⟩ : Array MapEntry).isEmpty = (E.map (·.key)).isEmpty := by cases E <;> rfl
          cases q with
          | none =>
            refine ⟨if ok then .tuple #[z, .bool false] else z, ?_, ?_⟩
            · cases ok with
              | true => exact .tuple (.cons (free_refl hb.2) (.cons (.same rfl) .nil))
              | false => exact free_refl hb.2
            · unfold execOp
              simp only [ho, e', hk, Instr.lookup, Sem.run_bind, pureRun_run hu w, Result.andThen_ok, run_getObj m1, Sem.run_pure, hem, pureRun_run hck w, hf, Option.bind_none, pureRun_run hz w]
          | some j =>
            have hj := (findA_now hq).2 j rfl
            have hj' : j < E.length := by omega
            obtain ⟨v', q1, q2⟩ := m4.at j (List.getElem?_eq_getElem (by omega : j < vs.length))
            have q3 : E[j].val = v' := by
              rw [List.getElem?_map, List.getElem?_eq_getElem hj'] at q1
              simpa using q1
            have q4 : vs.getD j z = vs[j]'(by omega) := by simp only [List.getD_eq_getElem?_getD, List.getElem?_eq_getElem (by omega : j < vs.length), Option.getD_some]
            refine ⟨if ok then .tuple #[v', .bool true] else v', ?_, ?_⟩
            · simp only [q4]
              cases ok with
              | true => exact .tuple (.cons q2 (.cons (.same rfl) .nil))
              | false => exact q2
            · unfold execOp
              simp only [ho, e', hk, Instr.lookup, Sem.run_bind, pureRun_run hu w, Result.andThen_ok, run_getObj m1, Sem.run_pure, hem, pureRun_run hck w, hf, Option.bind_some, List.getElem?_eq_getElem hj', Option.map_some, q3]
      · cases h
    · cases h
  · cases h

def setAt (l : List Value) (i : Nat) (v : Value) : List Value := l.set i v
def evMapUpdate (P : Program) (t : TypeId) (m k x : Value) (σ : Hp) (n : Nat) : Option Eff :=
  match pureRun P (underlying t), m with
  | some (.map kt _), .map (some r) => match σ r, pureRun P (underlying kt) with
    | some (.map ks vs born cl), some d => match pureRun P (Instr.checkKey false 10000 kt k), findA d k ks 0 with
      | some _, some (some j) => bif plain k && Instr.sameBits 10000 (ks.getD j k) k then some ⟨undef, [r], [(r, some (.map (ks.set j k) (vs.set j x) born cl))], n, n⟩ else none
      | some _, some none => bif plain k then some ⟨undef, [r], [(r, some (.map (ks ++ [k]) (vs ++ [x]) (born ++ [cl]) (cl + 1)))], n, n⟩ else none
      | _, _ => none
    | _, _ => none
  | _, _ => none
theorem all_set {ks : List Value} {j : Nat} {k : Value} (h : ks.all plain = true) (hk : plain k = true) : (ks.set j k).all plain = true := by
  rw [List.all_eq_true] at h ⊢
  intro x hx
  rcases List.mem_or_eq_of_mem_set hx with q | q
  · exact h x q
  · subst q; exact hk
theorem set_same {α : Type} : ∀ {l : List α} {j : Nat} {x : α}, l[j]? = some x → l.set j x = l
  | [], _, _, h => by simp at h
  | _ :: _, 0, _, h => by simp at h; subst h; rfl
  | y :: l, j + 1, x, h => by simp only [List.set_cons_succ]; rw [set_same (l := l) (by simpa using h)]
theorem evMapUpdate_ok {t : TypeId} {m k x : Operand} {E : Eff} (ho : o.op = .mapUpdate t m k x ∨ o.op = .insert t m k x) (h : evMapUpdate P t (ρ m) (ρ k) (ρ x) σ n = some E) : OpOK P G o ρ σ E ∧ E.lo = n ∧ n ≤ E.hi := by
  have hex : ∀ a : Act, execOp a.eval o = (do Instr.mapUpdate t (a.eval m) (a.eval k) (a.eval x); pure .skip) := fun a => by
    rcases ho with e | e <;> simp [execOp, e]
  have hop : ∀ y, y = m ∨ y = k ∨ y = x → y ∈ o.op.operands := fun y hy => by rcases ho with e | e <;> simp [e, Op.operands] <;> exact hy
  unfold evMapUpdate at h
  split at h
  · rename_i kt et r hu hx
    split at h
    · rename_i ks vs born cl d hs hd
      have main : ∀ (ι : Img) (a : Act) (w : World), (∀ y ∈ o.op.operands, VR ι (ρ y) (a.eval y)) → HR ι w (fun b => if b ∈ [r] then σ b else none) → plain (ρ k) = true → pureRun P (Instr.checkKey false 10000 kt (ρ k)) = some () → ∀ q, findA d (ρ k) ks 0 = some q →
          ∃ (k' c : Nat) (E : List MapEntry), a.eval m = .map (some k') ∧ ι r = some (k', c) ∧ c = big ∧ a.eval k = ρ k ∧ VR ι (ρ x) (a.eval x) ∧ w.heap[k']? = some (.map ⟨E⟩ cl) ∧ E.map (·.key) = ks ∧ ks.all plain = true ∧ VRs ι vs (E.map (·.val)) ∧ E.map (·.born) = born ∧
            (execOp a.eval o).run P w = Result.andThen ((match (q.bind fun j => (E[j]?).map fun (e : MapEntry) => (j, e.val)) with
              | some (i, _) => (do let key ← Instr.keyThatStays ((((⟨E⟩ : Array MapEntry)[i]?).map (fun (e : MapEntry) => e.key)).getD (ρ k)) (ρ k); setObj k' (.map ((⟨E⟩ : Array MapEntry).modify i fun (e : MapEntry) => { e with key, val := a.eval x }) cl) : Sem Unit)
              | none => setObj k' (.map ((⟨E⟩ : Array MapEntry).push { key := ρ k, val := a.eval x, born := cl }) (cl + 1))).run P w) (fun _ w => .ok .skip w) := by
        intro ι a w hv hH hpk hck q hq
        have hc := hv m (hop m (.inl rfl))
        have hk := (hv k (hop k (.inr (.inl rfl)))).plain_eq hpk
        rw [hx] at hc
        obtain ⟨k', c, e', hi⟩ := hc.map_inv
        obtain ⟨E, m1, m0, m2, m3, m4, m5⟩ := map_at hH (by simp) hs hi
        have hf := run_findKey (P := P) hd (by rw [m2]; exact hq) w
        refine ⟨k', c, E, e', hi, m0, hk, hv x (hop x (.inr (.inr rfl))), m1, m2, m3, m4, m5, ?_⟩
        rw [hex]
        simp only [e', hk, Instr.mapUpdate, Sem.run_bind, pureRun_run hu w, Result.andThen_ok, run_getObj m1, pureRun_run hck w]
        have hfa : (Instr.findKey kt (ρ k) (⟨E⟩ : Array MapEntry).toList).run P w = .ok (q.bind fun j => (E[j]?).map fun (e : MapEntry) => (j, e.val)) w := hf
        simp only [hfa, Result.andThen_ok]
        cases (q.bind fun j => (E[j]?).map fun (e : MapEntry) => (j, e.val)) with
        | none => rfl
        | some p => rfl
      split at h
      · rename_i u j hck hq
        cases hb : (plain (ρ k) && Instr.sameBits 10000 (ks.getD j (ρ k)) (ρ k)) with
        | false => rw [hb] at h; cases h
        | true =>
          rw [hb] at h
          simp only [cond_true, Option.some.injEq] at h
          subst h
          simp only [Bool.and_eq_true] at hb
          refine ⟨?_, rfl, Nat.le_refl _⟩
          intro ι a w _ hv _ _ hH K Q hK
          obtain ⟨k', c, E, e1, hi, rfl, e2, hx', m1, m2, m3, m4, m5, hrun⟩ := main ι a w hv hH hb.1 hck _ hq
          have hj : j < E.length := by
            have := (findA_now (E := E) (by rw [m2]; exact hq)).2 j rfl
            omega
          have hkey : (((⟨E⟩ : Array MapEntry)[j]?).map (fun (e : MapEntry) => e.key)).getD (ρ k) = ks.getD j (ρ k) := by
            have : (⟨E⟩ : Array MapEntry)[j]? = E[j]? := by simp
            rw [this, ← m2, List.getD_eq_getElem?_getD, List.getElem?_map]
          simp only [Option.bind_some, List.getElem?_eq_getElem hj, Option.map_some] at hrun
          rw [hkey] at hrun
          have hst : (Instr.keyThatStays (ks.getD j (ρ k)) (ρ k)).run P w = .ok (ρ k) w := by
            unfold Instr.keyThatStays
            rw [if_pos hb.2]; rfl
          simp only [Sem.run_bind, hst, Result.andThen_ok, run_setObj m1] at hrun
          unfold Oper.wp
          rw [hrun]
          refine hK ι undef _ (Step.put' hi ⟨E.set j { E[j] with key := ρ k, val := a.eval x }, ?_, rfl, ?_, all_set m3 hb.1, ?_, ?_⟩ (.same rfl))
          · have hk' : k' < w.heap.size := (Array.getElem?_eq_some_iff.1 m1).1
            simp only [Array.getElem?_setIfInBounds_self_of_lt hk']
            congr 2
            apply Array.ext'
            simp only [Array.toList_modify]
            rw [List.modify_eq_set]
            simp [hj]
          · rw [List.map_set, m2]
          · rw [List.map_set]
            exact m4.set j hx'
          · rw [List.map_set, m5]
            have : (E.map (·.born))[j]? = some (E[j]).born := by rw [List.getElem?_map, List.getElem?_eq_getElem hj]; rfl
            rw [m5] at this
            exact set_same this
      · rename_i u hck hq
        cases hb : plain (ρ k) with
        | false => rw [hb] at h; cases h
        | true =>
          rw [hb] at h
          simp only [cond_true, Option.some.injEq] at h
          subst h
          refine ⟨?_, rfl, Nat.le_refl _⟩
          intro ι a w _ hv _ _ hH K Q hK
          obtain ⟨k', c, E, e1, hi, rfl, e2, hx', m1, m2, m3, m4, m5, hrun⟩ := main ι a w hv hH hb hck _ hq
          simp only [Option.bind_none, run_setObj m1, Result.andThen_ok] at hrun
          unfold Oper.wp
          rw [hrun]
          refine hK ι undef _ (Step.put' hi ⟨E ++ [{ key := ρ k, val := a.eval x, born := cl }], ?_, rfl, ?_, ?_, ?_, ?_⟩ (.same rfl))
          · have hk' : k' < w.heap.size := (Array.getElem?_eq_some_iff.1 m1).1
            simp only [Array.getElem?_setIfInBounds_self_of_lt hk']
            congr 2
            exact Array.ext' (by simp)
          · rw [List.map_append, m2]; rfl
          · rw [List.all_append, m3, List.all_cons, hb]; rfl
          · rw [List.map_append]; exact m4.append (.cons hx' .nil)
          · rw [List.map_append, m5]; rfl
      · cases h
    · cases h
  · cases h

def evMapEntry (P : Program) (t : TypeId) (m k : Value) (σ : Hp) (n : Nat) : Option Eff :=
  match pureRun P (underlying t), m with
  | some (.map kt et), .map (some r) => match σ r, pureRun P (underlying kt) with
    | some (.map ks vs born cl), some d => match pureRun P (Instr.checkKey false 10000 kt k), findA d k ks 0 with
      | some _, some (some j) => match vs[j]?, born[j]? with
        | some v, some bn => bif plain k && Instr.sameBits 10000 (ks.getD j k) k then some ⟨.tuple ⟨[v, .int .i64 bn]⟩, [r], [(r, some (.map (ks.set j k) vs born cl))], n, n⟩ else none
        | _, _ => none
      | some _, some none => match pureRun P (zeroValue et) with
        | some z => bif plain k && free 2 z then some ⟨.tuple ⟨[z, .int .i64 cl]⟩, [r], [(r, some (.map (ks ++ [k]) (vs ++ [z]) (born ++ [cl]) (cl + 1)))], n, n⟩ else none
        | none => none
      | _, _ => none
    | _, _ => none
  | _, _ => none
theorem evMapEntry_ok {t : TypeId} {m k : Operand} {E : Eff} (ho : o.op = .mapEntry t m k) (h : evMapEntry P t (ρ m) (ρ k) σ n = some E) : OpOK P G o ρ σ E ∧ E.lo = n ∧ n ≤ E.hi := by
  unfold evMapEntry at h
  split at h
  · rename_i kt et r hu hx
    split at h
    · rename_i ks vs born cl d hs hd
      have base : ∀ (ι : Img) (a : Act) (w : World), (∀ y ∈ o.op.operands, VR ι (ρ y) (a.eval y)) → HR ι w (fun b => if b ∈ [r] then σ b else none) → plain (ρ k) = true → pureRun P (Instr.checkKey false 10000 kt (ρ k)) = some () → ∀ q, findA d (ρ k) ks 0 = some q →
          ∃ (k' c : Nat) (E : List MapEntry), a.eval m = .map (some k') ∧ ι r = some (k', c) ∧ c = big ∧ a.eval k = ρ k ∧ w.heap[k']? = some (.map ⟨E⟩ cl) ∧ E.map (·.key) = ks ∧ ks.all plain = true ∧ VRs ι vs (E.map (·.val)) ∧ E.map (·.born) = born ∧
            (Instr.findKey kt (ρ k) (⟨E⟩ : Array MapEntry).toList).run P w = .ok (q.bind fun j => (E[j]?).map fun (e : MapEntry) => (j, e.val)) w := by
        intro ι a w hv hH hpk hck q hq
        have hc := hv m (by simp [ho, Op.operands])
        have hk := (hv k (by simp [ho, Op.operands])).plain_eq hpk
        rw [hx] at hc
        obtain ⟨k', c, e', hi⟩ := hc.map_inv
        obtain ⟨E, m1, m0, m2, m3, m4, m5⟩ := map_at hH (by simp) hs hi
        exact ⟨k', c, E, e', hi, m0, hk, m1, m2, m3, m4, m5, run_findKey (P := P) hd (by rw [m2]; exact hq) w⟩
      split at h
      · rename_i u j hck hq
        split at h
        · rename_i v bn hv0 hbn
          cases hb : (plain (ρ k) && Instr.sameBits 10000 (ks.getD j (ρ k)) (ρ k)) with
          | false => rw [hb] at h; cases h
          | true =>
            rw [hb] at h
            simp only [cond_true, Option.some.injEq] at h
            subst h
            simp only [Bool.and_eq_true] at hb
            refine ⟨?_, rfl, Nat.le_refl _⟩
            intro ι a w _ hv _ _ hH K Q hK
            obtain ⟨k', c, E, e1, hi, rfl, e2, m1, m2, m3, m4, m5, hf⟩ := base ι a w hv hH hb.1 hck _ hq
            have hj : j < E.length := by
              have := (findA_now (E := E) (by rw [m2]; exact hq)).2 j rfl
              omega
            have hE : (⟨E⟩ : Array MapEntry)[j]? = some E[j] := by simp [hj]
            have hkey : (((⟨E⟩ : Array MapEntry)[j]?).map (fun (e : MapEntry) => e.key)).getD (ρ k) = ks.getD j (ρ k) := by
              have : (⟨E⟩ : Array MapEntry)[j]? = E[j]? := by simp
              rw [this, ← m2, List.getD_eq_getElem?_getD, List.getElem?_map]
            have hst : (Instr.keyThatStays (ks.getD j (ρ k)) (ρ k)).run P w = .ok (ρ k) w := by
              unfold Instr.keyThatStays
              rw [if_pos hb.2]; rfl
            have hbn' : (E[j]).born = bn := by
              rw [← m5, List.getElem?_map, List.getElem?_eq_getElem hj] at hbn
              simpa using hbn
            obtain ⟨v', q1, q2⟩ := m4.at j hv0
            have hvv : (E[j]).val = v' := by
              rw [List.getElem?_map, List.getElem?_eq_getElem hj] at q1
              simpa using q1
            have hrun : (execOp a.eval o).run P w = .ok (.value (.tuple #[v', .int .i64 bn])) { w with heap := w.heap.setIfInBounds k' (.map ((⟨E⟩ : Array MapEntry).modify j fun (e : MapEntry) => { e with key := ρ k }) cl) } := by
              unfold execOp
              simp only [ho, e1, e2, Instr.mapEntry, Sem.run_bind, pureRun_run hu w, Result.andThen_ok, run_getObj m1, pureRun_run hck w, hf, Option.bind_some, List.getElem?_eq_getElem hj, Option.map_some, hkey, hst, run_setObj m1, Sem.run_pure, goInt, hvv]
              simp only [hE, Option.map_some, Option.getD_some, hbn']
            unfold Oper.wp
            rw [hrun]
            refine hK ι _ _ (Step.put' hi ⟨E.set j { E[j] with key := ρ k }, ?_, rfl, ?_, all_set m3 hb.1, ?_, ?_⟩ (.tuple (.cons q2 (.cons (.same rfl) .nil))))
            · have hk' : k' < w.heap.size := (Array.getElem?_eq_some_iff.1 m1).1
              simp only [Array.getElem?_setIfInBounds_self_of_lt hk']
              congr 2
              apply Array.ext'
              simp only [Array.toList_modify]
              rw [List.modify_eq_set]
              simp [hj]
            · rw [List.map_set, m2]
            · rw [List.map_set]
              have : (E.map (·.val))[j]? = some (E[j]).val := by rw [List.getElem?_map, List.getElem?_eq_getElem hj]; rfl
              rw [set_same this]; exact m4
            · rw [List.map_set, m5]
              have : (E.map (·.born))[j]? = some (E[j]).born := by rw [List.getElem?_map, List.getElem?_eq_getElem hj]; rfl
              rw [m5] at this
              exact set_same this
        · cases h
      · rename_i u hck hq
        split at h
        · rename_i z hz
          cases hb : (plain (ρ k) && free 2 z) with
          | false => rw [hb] at h; cases h
          | true =>
            rw [hb] at h
            simp only [cond_true, Option.some.injEq] at h
            subst h
            simp only [Bool.and_eq_true] at hb
            refine ⟨?_, rfl, Nat.le_refl _⟩
            intro ι a w _ hv _ _ hH K Q hK
            obtain ⟨k', c, E, e1, hi, rfl, e2, m1, m2, m3, m4, m5, hf⟩ := base ι a w hv hH hb.1 hck _ hq
            have hrun : (execOp a.eval o).run P w = .ok (.value (.tuple #[z, .int .i64 cl])) { w with heap := w.heap.setIfInBounds k' (.map ((⟨E⟩ : Array MapEntry).push { key := ρ k, val := z, born := cl }) (cl + 1)) } := by
              unfold execOp
              simp only [ho, e1, e2, Instr.mapEntry, Sem.run_bind, pureRun_run hu w, Result.andThen_ok, run_getObj m1, pureRun_run hck w, hf, Option.bind_none, pureRun_run hz w, run_setObj m1, Sem.run_pure, goInt]
            unfold Oper.wp
            rw [hrun]
            refine hK ι _ _ (Step.put' hi ⟨E ++ [{ key := ρ k, val := z, born := cl }], ?_, rfl, ?_, ?_, ?_, ?_⟩ (.tuple (.cons (free_refl hb.2) (.cons (.same rfl) .nil))))
            · have hk' : k' < w.heap.size := (Array.getElem?_eq_some_iff.1 m1).1
              simp only [Array.getElem?_setIfInBounds_self_of_lt hk']
              congr 2
              exact Array.ext' (by simp)
            · rw [List.map_append, m2]; rfl
            · rw [List.all_append, m3, List.all_cons, hb.1]; rfl
            · rw [List.map_append]; exact m4.append (.cons (free_refl hb.2) .nil)
            · rw [List.map_append, m5]; rfl
        · cases h
      · cases h
    · cases h
  · cases h

def idxOf (b : Int) : List Nat → Nat → Option Nat
  | [], _ => none
  | x :: l, i => bif (x : Int) == b then some i else idxOf b l (i + 1)
theorem idxOf_ok {b : Int} : ∀ {E : List MapEntry} {i j : Nat}, idxOf b (E.map (·.born)) i = some j → i ≤ j ∧ j < i + E.length ∧ E.findIdx? (fun (e : MapEntry) => (e.born : Int) == b) = some (j - i)
  | [], i, j, h => by simp [idxOf] at h
  | e :: E, i, j, h => by
    simp only [List.map_cons, idxOf] at h
    cases hb : ((e.born : Int) == b) with
    | true =>
      rw [hb] at h
      simp only [cond_true, Option.some.injEq] at h
      subst h
      refine ⟨Nat.le_refl _, by simp, ?_⟩
      rw [List.findIdx?_cons, hb]; simp
    | false =>
      rw [hb] at h
      simp only [cond_false] at h
      obtain ⟨h1, h2, h3⟩ := idxOf_ok h
      refine ⟨by omega, by simp only [List.length_cons]; omega, ?_⟩
      rw [List.findIdx?_cons, hb, h3]
      simp only [Bool.false_eq_true, if_false, Option.map_some, Option.some.injEq]
      omega
def evEntryStore (m s x : Value) (σ : Hp) (n : Nat) : Option Eff :=
  match m, s with
  | .map (some r), .int _ b => match σ r with
    | some (.map ks vs born cl) => match idxOf b born 0 with
      | some j => some ⟨undef, [r], [(r, some (.map ks (vs.set j x) born cl))], n, n⟩
      | none => none
    | _ => none
  | _, _ => none
theorem evEntryStore_ok {t : TypeId} {m s x : Operand} {E : Eff} (ho : o.op = .entryStore t m s x) (h : evEntryStore (ρ m) (ρ s) (ρ x) σ n = some E) : OpOK P G o ρ σ E ∧ E.lo = n ∧ n ≤ E.hi := by
  unfold evEntryStore at h
  split at h
  · rename_i r ik b hx hs0
    split at h
    · rename_i ks vs born cl hs
      split at h
      · rename_i j hj
        simp only [Option.some.injEq] at h
        subst h
        refine ⟨?_, rfl, Nat.le_refl _⟩
        intro ι a w _ hv _ _ hH K Q hK
        have hc := hv m (by simp [ho, Op.operands])
        have hb := hv s (by simp [ho, Op.operands])
        have hxv := hv x (by simp [ho, Op.operands])
        rw [hx] at hc; rw [hs0] at hb
        have hb' := hb.plain_eq rfl
        obtain ⟨k', c, e', hi⟩ := hc.map_inv
        obtain ⟨E, m1, rfl, m2, m3, m4, m5⟩ := map_at hH (by simp) hs hi
        obtain ⟨h1, h2, h3⟩ := idxOf_ok (E := E) (by rw [m5]; exact hj)
        have hjE : j < E.length := by omega
        have hrun : (execOp a.eval o).run P w = .ok .skip { w with heap := w.heap.setIfInBounds k' (.map ((⟨E⟩ : Array MapEntry).modify j fun (e : MapEntry) => { e with val := a.eval x }) cl) } := by
          have hfi : (⟨E⟩ : Array MapEntry).findIdx? (fun (e : MapEntry) => (e.born : Int) == b) = some j := by
            rw [Nat.sub_zero] at h3
            rw [← h3]; simp
          unfold execOp
          simp only [ho, e', hb', Instr.entryStore, Sem.run_bind, Result.andThen_ok, run_getObj m1, asInt, asIntOf, Sem.run_pure, hfi, run_setObj m1]
        unfold Oper.wp
        rw [hrun]
        refine hK ι undef _ (Step.put' hi ⟨E.set j { E[j] with val := a.eval x }, ?_, rfl, ?_, m3, ?_, ?_⟩ (.same rfl))
        · have hk' : k' < w.heap.size := (Array.getElem?_eq_some_iff.1 m1).1
          simp only [Array.getElem?_setIfInBounds_self_of_lt hk']
          congr 2
          apply Array.ext'
          simp only [Array.toList_modify]
          rw [List.modify_eq_set]
          simp [hjE]
        · rw [List.map_set, m2]
          have : (E.map (·.key))[j]? = some (E[j]).key := by rw [List.getElem?_map, List.getElem?_eq_getElem hjE]; rfl
          rw [m2] at this
          exact set_same this
        · rw [List.map_set]; exact m4.set j hxv
        · rw [List.map_set, m5]
          have : (E.map (·.born))[j]? = some (E[j]).born := by rw [List.getElem?_map, List.getElem?_eq_getElem hjE]; rfl
          rw [m5] at this
          exact set_same this
      · cases h
    · cases h
  · cases h

/-- copy from one slice into another -/
def evCopy (P : Program) (t : TypeId) (d s : Value) (σ : Hp) (n : Nat) : Option Eff :=
  match pureRun P (underlying t) with
  | some (.slice e) => match pureRun P (sizeOf e), d, s with
    | some sz, .slice (some ⟨b, off, none⟩) dlen _, .slice (some ⟨b2, off2, none⟩) slen _ => match σ b, σ b2 with
      | some (.row cs e' sz' ex), some (.row cs2 _ _ _) =>
        let k := Nat.min slen dlen
        let c := (cs2.drop off2).take (k * sz)
        bif Nat.beq c.length (k * sz) && c.all one && Nat.ble (off + k * sz) cs.length then some ⟨.int .i64 k, [b, b2], [(b, some (.row (splice cs off c) e' sz' ex))], n, n⟩ else none
      | _, _ => none
    | some _, .slice _ dlen _, .slice none 0 _ => some ⟨.int .i64 (Nat.min 0 dlen), [], [], n, n⟩
    | _, _, _ => none
  | _ => none
theorem run_copy_op {t t2 : TypeId} {d s : Operand} {a : Act} {w w' : World} {v : Value} (ho : o.op = .call { callee := .builtin .copy, args := #[d, s], argTypes := #[t, t2] }) (h : (Builtin.copy_ #[t, t2] o.type #[a.eval d, a.eval s]).run P w = .ok v w') :
    (execOp a.eval o).run P w = .ok (.value v) w' := by
  unfold execOp
  simp only [ho, resolve, invoke, builtin, Sem.run_bind, Sem.run_pure, Result.andThen_ok, List.map_toArray, List.map_cons, List.map_nil, h]
theorem evCopy_ok {t t2 : TypeId} {d s : Operand} {E : Eff} (ho : o.op = .call { callee := .builtin .copy, args := #[d, s], argTypes := #[t, t2] }) (h : evCopy P t (ρ d) (ρ s) σ n = some E) : OpOK P G o ρ σ E ∧ E.lo = n ∧ n ≤ E.hi := by
  have mems : d ∈ o.op.operands ∧ s ∈ o.op.operands := by simp [ho, Op.operands, Call.operands]
  unfold evCopy at h
  split at h
  · rename_i e hu
    split at h
    · rename_i sz b off dlen dcap b2 off2 slen scap hsz hd hs
      split at h
      · rename_i cs e' sz' ex cs2 e2 sz2 ex2 hrow hrow2
        cases hb : (Nat.beq ((cs2.drop off2).take (Nat.min slen dlen * sz)).length (Nat.min slen dlen * sz) && ((cs2.drop off2).take (Nat.min slen dlen * sz)).all one && Nat.ble (off + Nat.min slen dlen * sz) cs.length) with
        | false => simp only [hb, cond_false] at h; cases h
        | true =>
          simp only [hb, cond_true, Option.some.injEq] at h
          subst h
          simp only [Bool.and_eq_true] at hb
          have hb1 := Nat.eq_of_beq_eq_true hb.1.1
          have hb2 := Nat.le_of_ble_eq_true hb.2
          refine ⟨?_, rfl, Nat.le_refl _⟩
          intro ι a w _ hv _ _ hH K Q hK
          have hdv := hv d mems.1
          have hsv := hv s mems.2
          rw [hd] at hdv; rw [hs] at hsv
          obtain ⟨k1, c1, cap1, ed, hi1, -, -⟩ := hdv.slice_inv
          obtain ⟨k2, c2, cap2, es, hi2, -, -⟩ := hsv.slice_inv
          obtain ⟨A, q1, q2, q3, q4, q5⟩ := row_at hH (by simp) hrow hi1
          obtain ⟨A2, p1, p2, p3, -⟩ := row_at hH (by simp) hrow2 hi2
          obtain ⟨r1, r2, r3⟩ := seg_cells p1 p2 p3 hb1
          have hf := run_firstCells_some (P := P) w sz (Nat.min slen dlen) ⟨k2, off2, none⟩ slen cap2 _ r2 (fun j v hj => by rw [add_eq]; exact r3 j v hj)
          have hst := run_storeCells_at P k1 off e' ((A2.drop off2).take (Nat.min slen dlen * sz)) 0 ⟨A⟩ w q1 (by simp only [List.size_toArray]; omega) (ones_of r1 hb.1.2)
          simp only [Nat.add_zero] at hst
          have hrun := run_copy_op (P := P) (a := a) (w := w) (v := .int .i64 (Nat.min slen dlen : Nat)) ho (by
            rw [ed, es]
            simp only [Builtin.copy_]
            have h0 : (#[t, t2] : Array TypeId)[0]? = some t := rfl
            have h1 : (#[Value.slice (some ⟨k1, off, none⟩) dlen cap1, Value.slice (some ⟨k2, off2, none⟩) slen cap2] : Array Value)[0]? = some (Value.slice (some ⟨k1, off, none⟩) dlen cap1) := rfl
            have h2 : (#[Value.slice (some ⟨k1, off, none⟩) dlen cap1, Value.slice (some ⟨k2, off2, none⟩) slen cap2] : Array Value)[1]? = some (Value.slice (some ⟨k2, off2, none⟩) slen cap2) := rfl
            simp only [h0, h1, h2, Sem.run_bind, pureRun_run hu w, Result.andThen_ok, Builtin.lenOf, Sem.run_pure, pureRun_run hsz w, hf, hst, goInt]
            rfl)
          unfold Oper.wp
          rw [hrun]
          refine hK ι _ _ (Step.put hi1 (setRow_size _ _ _) (fun j hj => setRow_other _ _ _ _ hj) ⟨rfl, rfl, rfl⟩ (BR.splice q2 q3 q4 q5 r1 (by omega) ?_) (.same rfl))
          exact setRow_heap w k1 ⟨A⟩ _ e' (0, 0) q1
      · cases h
    · rename_i sz ad dlen dcap scap hsz hd hs
      simp only [Option.some.injEq] at h
      subst h
      refine ⟨ok_val fun ι a w hv _ => ⟨_, .same rfl, run_copy_op ho ?_⟩, rfl, Nat.le_refl _⟩
      have hdv := hv d mems.1
      have hsv := hv s mems.2
      rw [hd] at hdv; rw [hs] at hsv
      have es := hsv.plain_eq rfl
      have : ∃ ad' cap', a.eval d = .slice ad' dlen cap' := by
        generalize a.eval d = u at hdv
        cases hdv with
        | same p => exact ⟨_, _, rfl⟩
        | slice e1 e2 e3 => exact ⟨_, _, rfl⟩
      obtain ⟨ad', cap', ed⟩ := this
      rw [ed, es]
      simp only [Builtin.copy_]
      have h0 : (#[t, t2] : Array TypeId)[0]? = some t := rfl
      have h1 : (#[Value.slice ad' dlen cap', Value.slice none 0 scap] : Array Value)[0]? = some (Value.slice ad' dlen cap') := rfl
      have h2 : (#[Value.slice ad' dlen cap', Value.slice none 0 scap] : Array Value)[1]? = some (Value.slice none 0 scap) := rfl
      simp only [h0, h1, h2, Sem.run_bind, pureRun_run hu w, Result.andThen_ok, Builtin.lenOf, Sem.run_pure, pureRun_run hsz w, run_firstCells_none, goInt]
      cases ad' <;> rfl
    · cases h
  · cases h
end
end Go.Ev
