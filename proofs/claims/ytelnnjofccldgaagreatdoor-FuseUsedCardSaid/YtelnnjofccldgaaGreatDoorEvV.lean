/-
  Evaluation of calls with known arguments, part 1: values and blocks by abstract names, and how they stand for a world's. No program in sight.
-/
import Derived.Orders
import Derived.WalkKit
namespace Go.Ev
open Go

/-- an abstract block's block, and the capacity (in elements) of what lies there; 'big' where it is known -/
abbrev Img := Nat → Option (Nat × Nat)
def big : Nat := 1125899906842624

/-- no address inside, and no parts -/
def plain : Value → Bool
  | .bool _ | .int _ _ | .float _ _ | .string _ | .pointer none | .slice none _ _ | .map none | .nilFunc | .nilIface => true
  | .tuple vs => vs.isEmpty
  | _ => false

mutual
inductive VR (ι : Img) : Value → Value → Prop
  | same {v : Value} : plain v = true → VR ι v v
  | ptr {b o k c : Nat} {s : Option Nat} : ι b = some (k, c) → VR ι (.pointer (some ⟨b, o, s⟩)) (.pointer (some ⟨k, o, s⟩))
  | slice {b o n cap k c cap' : Nat} : ι b = some (k, c) → cap' + big = cap + c → n ≤ cap' → VR ι (.slice (some ⟨b, o, none⟩) n cap) (.slice (some ⟨k, o, none⟩) n cap')
  | map {r k c : Nat} : ι r = some (k, c) → VR ι (.map (some r)) (.map (some k))
  | func {f : FuncId} {cs cs' : List Value} : VRs ι cs cs' → VR ι (.func (.func f) #[] ⟨cs⟩) (.func (.func f) #[] ⟨cs'⟩)
  | agg {cs cs' : List Value} : VRs ι cs cs' → VR ι (.agg ⟨cs⟩) (.agg ⟨cs'⟩)
  | tuple {cs cs' : List Value} : VRs ι cs cs' → VR ι (.tuple ⟨cs⟩) (.tuple ⟨cs'⟩)
inductive VRs (ι : Img) : List Value → List Value → Prop
  | nil : VRs ι [] []
  | cons {v v' : Value} {l l' : List Value} : VR ι v v' → VRs ι l l' → VRs ι (v :: l) (v' :: l')
end

def Ext1 (ι ι' : Img) : Prop := ∀ b x, ι b = some x → ι' b = some x
theorem Ext1.refl (ι : Img) : Ext1 ι ι := fun _ _ h => h
theorem Ext1.trans {a b c : Img} (h : Ext1 a b) (k : Ext1 b c) : Ext1 a c := fun i x hx => k i x (h i x hx)

mutual
theorem VR.mono {ι ι' : Img} (h : Ext1 ι ι') : ∀ {v v' : Value}, VR ι v v' → VR ι' v v'
  | _, _, .same p => .same p
  | _, _, .ptr e => .ptr (h _ _ e)
  | _, _, .slice e1 e2 e3 => .slice (h _ _ e1) e2 e3
  | _, _, .map e => .map (h _ _ e)
  | _, _, .func k => .func (VRs.mono h k)
  | _, _, .agg k => .agg (VRs.mono h k)
  | _, _, .tuple k => .tuple (VRs.mono h k)
theorem VRs.mono {ι ι' : Img} (h : Ext1 ι ι') : ∀ {l l' : List Value}, VRs ι l l' → VRs ι' l l'
  | _, _, .nil => .nil
  | _, _, .cons k ks => .cons (VR.mono h k) (VRs.mono h ks)
end

/-- every address inside is one of R; n: how deep to look -/
def closed (R : Nat → Bool) : Nat → Value → Bool
  | _, .pointer (some a) => R a.block
  | _, .slice (some a) _ _ => R a.block
  | _, .map (some r) => R r
  | n + 1, .func _ _ cs => cs.toList.all (closed R n)
  | n + 1, .agg cs => cs.toList.all (closed R n)
  | n + 1, .tuple cs => cs.toList.all (closed R n)
  | _, v => plain v
def cut (ι : Img) (R : Nat → Bool) : Img := fun b => if R b then ι b else none
theorem cut_ext (ι : Img) (R : Nat → Bool) : Ext1 (cut ι R) ι := fun b x h => by
  unfold cut at h
  split at h
  · exact h
  · cases h
theorem cut_at {ι : Img} {R : Nat → Bool} {b : Nat} (h : R b = true) : cut ι R b = ι b := by unfold cut; rw [if_pos h]
theorem closed_plain {R : Nat → Bool} : ∀ {n : Nat} {v v' : Value} {ι : Img}, VR ι v v' → closed R n v = true → VR (cut ι R) v v' := by
  intro n
  induction n with
  | zero =>
    intro v v' ι h hc
    cases h with
    | same p => exact .same p
    | ptr e => exact .ptr (by rw [cut_at hc]; exact e)
    | slice e1 e2 e3 => exact .slice (by rw [cut_at hc]; exact e1) e2 e3
    | map e => exact .map (by rw [cut_at hc]; exact e)
    | func k => simp [closed, plain] at hc
    | agg k => simp [closed, plain] at hc
    | tuple k =>
      cases k with
      | nil => exact .tuple .nil
      | cons a b => simp [closed, plain] at hc
  | succ n ih =>
    have ihs : ∀ {l l' : List Value} {ι : Img}, VRs ι l l' → l.all (closed R n) = true → VRs (cut ι R) l l' := by
      intro l
      induction l with
      | nil => intro l' ι h _; cases h; exact .nil
      | cons x l ihl =>
        intro l' ι h hc
        cases h with
        | cons a b =>
          simp only [List.all_cons, Bool.and_eq_true] at hc
          exact .cons (ih a hc.1) (ihl b hc.2)
    intro v v' ι h hc
    cases h with
    | same p => exact .same p
    | ptr e => exact .ptr (by rw [cut_at hc]; exact e)
    | slice e1 e2 e3 => exact .slice (by rw [cut_at hc]; exact e1) e2 e3
    | map e => exact .map (by rw [cut_at hc]; exact e)
    | func k => exact .func (ihs k hc)
    | agg k => exact .agg (ihs k hc)
    | tuple k => exact .tuple (ihs k hc)
theorem closed_all {R : Nat → Bool} {n : Nat} : ∀ {l l' : List Value} {ι : Img}, VRs ι l l' → l.all (closed R n) = true → VRs (cut ι R) l l'
  | _, _, _, .nil, _ => .nil
  | _, _, _, .cons a b, h => by
    simp only [List.all_cons, Bool.and_eq_true] at h
    exact .cons (closed_plain a h.1) (closed_all b h.2)

theorem VRs.length {ι : Img} : ∀ {l l' : List Value}, VRs ι l l' → l.length = l'.length
  | _, _, .nil => rfl
  | _, _, .cons _ k => by simp [VRs.length k]
theorem VRs.at {ι : Img} : ∀ {l l' : List Value} (i : Nat) {v : Value}, VRs ι l l' → l[i]? = some v → ∃ v', l'[i]? = some v' ∧ VR ι v v'
  | _, _, _, _, .nil, h => by simp at h
  | _, _, 0, _, .cons a _, h => by
    simp only [List.getElem?_cons_zero, Option.some.injEq] at h ⊢
    subst h; exact ⟨_, rfl, a⟩
  | _, _, i + 1, _, .cons _ k, h => by
    simp only [List.getElem?_cons_succ] at h ⊢
    exact VRs.at i k h
theorem VRs.set {ι : Img} : ∀ {l l' : List Value} (i : Nat) {v v' : Value}, VRs ι l l' → VR ι v v' → VRs ι (l.set i v) (l'.set i v')
  | _, _, _, _, _, .nil, _ => .nil
  | _, _, 0, _, _, .cons _ k, h => .cons h k
  | _, _, i + 1, _, _, .cons a k, h => .cons a (VRs.set i k h)
theorem VRs.append {ι : Img} : ∀ {l l' m m' : List Value}, VRs ι l l' → VRs ι m m' → VRs ι (l ++ m) (l' ++ m')
  | _, _, _, _, .nil, h => h
  | _, _, _, _, .cons a k, h => .cons a (VRs.append k h)
theorem VRs.take {ι : Img} : ∀ {l l' : List Value} (n : Nat), VRs ι l l' → VRs ι (l.take n) (l'.take n)
  | _, _, _, .nil => by simpa using VRs.nil
  | _, _, 0, .cons _ _ => by simpa using VRs.nil
  | _, _, n + 1, .cons a k => .cons a (VRs.take n k)
theorem VRs.drop {ι : Img} : ∀ {l l' : List Value} (n : Nat), VRs ι l l' → VRs ι (l.drop n) (l'.drop n)
  | _, _, _, .nil => by simpa using VRs.nil
  | _, _, 0, .cons a k => .cons a k
  | _, _, n + 1, .cons _ k => by simpa using VRs.drop n k
theorem VR.plain_eq {ι : Img} {v v' : Value} (h : VR ι v v') (p : plain v = true) : v' = v := by
  cases h with
  | same _ => rfl
  | tuple k =>
    cases k with
    | nil => rfl
    | cons a b => simp [plain] at p
  | _ => simp [plain] at p

/-- no address inside -/
def free : Nat → Value → Bool
  | n + 1, .agg cs => cs.toList.all (free n)
  | n + 1, .tuple cs => cs.toList.all (free n)
  | n + 1, .func (.func _) fst cs => fst.isEmpty && cs.toList.all (free n)
  | _, v => plain v
theorem free_eq {ι : Img} : ∀ {n : Nat} {v v' : Value}, VR ι v v' → free n v = true → v' = v := by
  intro n
  induction n with
  | zero => intro v v' h p; exact h.plain_eq (by cases v <;> exact p)
  | succ n ih =>
    have ihs : ∀ {l l' : List Value}, VRs ι l l' → l.all (free n) = true → l' = l := by
      intro l
      induction l with
      | nil => intro l' h _; cases h; rfl
      | cons x l ihl =>
        intro l' h hc
        cases h with
        | cons a b =>
          simp only [List.all_cons, Bool.and_eq_true] at hc
          rw [ih a hc.1, ihl b hc.2]
    intro v v' h p
    cases h with
    | same q => rfl
    | agg k => rw [ihs k p]
    | tuple k => rw [ihs k p]
    | func k =>
      simp only [free, Bool.and_eq_true] at p
      rw [ihs k p.2]
    | _ => simp [free, plain] at p
theorem free_refl {ι : Img} : ∀ {n : Nat} {v : Value}, free n v = true → VR ι v v := by
  intro n
  induction n with
  | zero => intro v p; exact .same (by cases v <;> exact p)
  | succ n ih =>
    have ihs : ∀ {l : List Value}, l.all (free n) = true → VRs ι l l := by
      intro l
      induction l with
      | nil => intro _; exact .nil
      | cons x l ihl =>
        intro hc
        simp only [List.all_cons, Bool.and_eq_true] at hc
        exact .cons (ih hc.1) (ihl hc.2)
    intro v p
    cases v with
    | agg cs => exact .agg (ihs p)
    | tuple cs => exact .tuple (ihs p)
    | func f fst cs =>
      cases f with
      | func g =>
        simp only [free, Bool.and_eq_true] at p
        have : fst = #[] := by simpa using p.1
        subst this
        exact .func (ihs p.2)
      | _ => exact .same p
    | _ => exact .same p

/-- a block: a row of cells (elements of sz cells each; exact: these cells and no more), or a map -/
inductive Blk
  | row (cs : List Value) (e : TypeId) (sz : Nat) (exact : Bool)
  | map (ks vs : List Value) (born : List Nat) (clock : Nat)
def BR (ι : Img) (w : World) (k c : Nat) : Blk → Prop
  | .row cs e sz ex => ∃ A : List Value, w.heap[k]? = some (.cells ⟨A⟩ e (0, 0)) ∧ cs.length ≤ A.length ∧ VRs ι cs (A.take cs.length) ∧ (ex = true → c = big ∧ A.length = cs.length) ∧ (ex = false → 0 < sz ∧ A.length = c * sz)
  | .map ks vs born clock => ∃ E : List MapEntry, w.heap[k]? = some (.map ⟨E⟩ clock) ∧ c = big ∧ E.map (·.key) = ks ∧ (ks.all plain = true) ∧ VRs ι vs (E.map (·.val)) ∧ E.map (·.born) = born
theorem BR.mono {ι ι' : Img} {w w' : World} {k c : Nat} {B : Blk} (h : BR ι w k c B) (hi : Ext1 ι ι') (hw : w'.heap[k]? = w.heap[k]?) : BR ι' w' k c B := by
  cases B with
  | row cs e sz ex =>
    obtain ⟨A, h1, h2, h3, h4⟩ := h
    exact ⟨A, hw.trans h1, h2, h3.mono hi, h4⟩
  | map ks vs born clock =>
    obtain ⟨E, h1, h2, h3, h4, h5, h6⟩ := h
    exact ⟨E, hw.trans h1, h2, h3, h4, h5.mono hi, h6⟩
theorem BR.lt {ι : Img} {w : World} {k c : Nat} {B : Blk} (h : BR ι w k c B) : k < w.heap.size := by
  have key : ∀ o, w.heap[k]? = some o → k < w.heap.size := fun o e => by
    rcases Nat.lt_or_ge k w.heap.size with h' | h'
    · exact h'
    · simp [Array.getElem?_eq_none h'] at e
  cases B with
  | row cs e sz ex => obtain ⟨A, h1, _⟩ := h; exact key _ h1
  | map ks vs born clock => obtain ⟨E, h1, _⟩ := h; exact key _ h1
def closedB (R : Nat → Bool) (n : Nat) : Blk → Bool
  | .row cs _ _ _ => cs.all (closed R n)
  | .map _ vs _ _ => vs.all (closed R n)
theorem BR.cut {ι : Img} {w : World} {k c n : Nat} {B : Blk} {R : Nat → Bool} (h : BR ι w k c B) (hc : closedB R n B = true) : BR (cut ι R) w k c B := by
  cases B with
  | row cs e sz ex =>
    obtain ⟨A, h1, h2, h3, h4⟩ := h
    exact ⟨A, h1, h2, closed_all h3 hc, h4⟩
  | map ks vs born clock =>
    obtain ⟨E, h1, h2, h3, h4, h5, h6⟩ := h
    exact ⟨E, h1, h2, h3, h4, closed_all h5 hc, h6⟩

/-- the heap, by names -/
abbrev Hp := Nat → Option Blk
structure HR (ι : Img) (w : World) (σ : Hp) : Prop where
  at_ : ∀ b B, σ b = some B → ∃ k c, ι b = some (k, c) ∧ BR ι w k c B
  inj : ∀ b b' B B' k c c', σ b = some B → σ b' = some B' → ι b = some (k, c) → ι b' = some (k, c') → b = b'
theorem HR.sub {ι : Img} {w : World} {σ σ' : Hp} (h : HR ι w σ) (hs : ∀ b B, σ' b = some B → σ b = some B) : HR ι w σ' :=
  ⟨fun b B e => h.at_ b B (hs b B e), fun b b' B B' k c c' e e' => h.inj b b' B B' k c c' (hs _ _ e) (hs _ _ e')⟩

/-- an association list, newest first; none: no more -/
abbrev Al := List (Nat × Option Blk)
def look : Al → Nat → Option (Option Blk)
  | [], _ => none
  | (b, x) :: l, i => if b == i then some x else look l i
def hp (l : Al) : Hp := fun b => (look l b).join
theorem look_append : ∀ (l m : Al) (b : Nat), look (l ++ m) b = (look l b).or (look m b)
  | [], _, _ => by simp [look]
  | (i, x) :: l, m, b => by
    simp only [List.cons_append, look]
    split
    · rfl
    · exact look_append l m b

/-- what an operation does: its value, the blocks that it looks at, the blocks that it writes (none: is no more), the names that are its own -/
structure Eff where
  out : Value
  rd : List Nat
  wr : Al
  lo : Nat
  hi : Nat
def keys (l : Al) : List Nat := l.map (·.1)
theorem look_keys : ∀ {l : Al} {b : Nat} {x : Option Blk}, look l b = some x → b ∈ keys l
  | [], _, _, h => by simp [look] at h
  | (i, y) :: l, b, x, h => by
    simp only [look] at h
    split at h
    · rename_i e; simp only [beq_iff_eq] at e; subst e; simp [keys]
    · exact List.mem_cons_of_mem _ (look_keys h)

theorem look_ne : ∀ {l : Al} {b : Nat}, b ∈ keys l → look l b ≠ none
  | [], b, h => by simp [keys] at h
  | (i, x) :: l, b, h => by
    simp only [look]
    split
    · simp
    · rename_i hq
      refine look_ne ?_
      simp only [keys, List.map_cons, List.mem_cons] at h
      rcases h with h | h
      · exact absurd (by simp [h]) hq
      · exact h
/-- nothing but the heap and the count of draws has changed -/
def Same3 (w w' : World) : Prop := w'.os = w.os ∧ w'.tape = w.tape ∧ w'.output = w.output
theorem Same3.refl (w : World) : Same3 w w := ⟨rfl, rfl, rfl⟩
theorem Same3.trans {a b c : World} (h : Same3 a b) (k : Same3 b c) : Same3 a c := ⟨k.1.trans h.1, k.2.1.trans h.2.1, k.2.2.trans h.2.2⟩
structure Step (ι : Img) (w : World) (ι' : Img) (w' : World) (E : Eff) (v' : Value) : Prop where
  out : VR ι' E.out v'
  ext : Ext1 ι ι'
  new : ∀ b, ι b = none → ι' b ≠ none → E.lo ≤ b ∧ b < E.hi
  size : w.heap.size ≤ w'.heap.size
  frame : ∀ k, k < w.heap.size → (∀ b c, b ∈ keys E.wr → ι b ≠ some (k, c)) → w'.heap[k]? = w.heap[k]?
  wr : ∀ b B, look E.wr b = some (some B) → ∃ k c, ι' b = some (k, c) ∧ BR ι' w' k c B
  inj : ∀ b b' B B' k c c', look E.wr b = some (some B) → look E.wr b' = some (some B') → ι' b = some (k, c) → ι' b' = some (k, c') → b = b'
  img : ∀ b k c, ι b = none → ι' b = some (k, c) → w.heap.size ≤ k ∨ ∃ d c', d ∈ E.rd ∧ d ∈ keys E.wr ∧ ι d = some (k, c')
  rest : Same3 w w'

/-- an operation in the state by names, whatever world it stands for -/
def OpOK (P : Program) (G : Nat) (o : Oper) (ρ : Operand → Value) (σ : Hp) (E : Eff) : Prop :=
  ∀ (ι : Img) (a : Act) (w : World), (∀ g, g < G → ι g = some (g, big)) → (∀ x ∈ o.op.operands, VR ι (ρ x) (a.eval x)) → (∀ b, E.lo ≤ b → b < E.hi → ι b = none) → (∀ b, b ∈ E.rd → σ b ≠ none) → HR ι w (fun b => if b ∈ E.rd then σ b else none) →
    ∀ (K : Act → World → Prop) (Q : Exit → Act → World → Prop), (∀ ι' v' w', Step ι w ι' w' E v' → K (a.put o.dst v') w') → o.wp P a w K Q
end Go.Ev
