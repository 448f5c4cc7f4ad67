/-
  Layer 16 (fuse): the chapter's example: the distance of its plate to itself.
-/
import Derived.Test.YtelnnjofccldgaaGreatDoorFuO
namespace Go.Proofs.YtelnnjofccldgaaGreatDoor
open Go Go.RowKit Go.Ev
/-- the functions that the evaluator may enter -/
def fuS : Nat → Bool := fun f => Nat.blt f 175 && !(Nat.beq f 27) && !(Nat.beq f 83)
theorem fuS_all : ((List.range 175).all fun f => !(fuS f) || statF Tryz.prog 4 f) = true := by kernel_rfl
theorem fuS_stat : ∀ f, fuS f = true → statF Tryz.prog 4 f = true := fun f hf => by
  have h := fuS_all
  rw [List.all_eq_true] at h
  have hlt : f < 175 := by
    unfold fuS at hf
    simp only [Bool.and_eq_true] at hf
    have := hf.1.1
    rwa [Nat.blt_eq] at this
  have := h f (List.mem_range.2 hlt)
  rw [hf] at this
  simpa using this
def fuS' : Nat → Bool := fun f => Nat.beq f 83 || fuS f
theorem dist_stat : statF Tryz.prog 4 83 = true := by kernel_rfl
theorem fuS'_stat : ∀ f, fuS' f = true → statF Tryz.prog 4 f = true := fun f hf => by
  unfold fuS' at hf
  simp only [Bool.or_eq_true] at hf
  rcases hf with q | q
  · have := Nat.eq_of_beq_eq_true q
    rw [this]; exact dist_stat
  · exact fuS_stat f q
def plate0 : Value := .string ⟨#[65, 66, 49, 50]⟩
theorem mixed0 : Tryz.prog.follows .mixedOrders = true := by kernel_rfl
theorem dist_ev : (match evF Tryz.prog 4 fuS' oraF 3000 83 [plate0, plate0] [] 4 with | some (.int .i64 n, _, _, d) => n == 0 && d.isEmpty | _ => false) = true := by kernel_rfl
theorem dist_any : (∃ fn, Tryz.prog.funcs[83]? = some fn ∧ fn.body.isNone = false ∧ (fn.name == "runtime.NumGoroutine") = false) ∧ ∀ w : World, Calls Tryz.prog 83 ⟨[plate0, plate0]⟩ w fun e w' => e = .returned (.int .i64 0) ∧ Below w.heap.size w w' := by
  refine ev_free (S := fuS') (ora := oraF) (k := 3000) oraF_ok mixed0 fuS'_stat rfl rfl ?_
  have h := dist_ev
  split at h
  · rename_i n h' n' d he
    simp only [Bool.and_eq_true, beq_iff_eq, List.isEmpty_iff] at h
    obtain ⟨rfl, rfl⟩ := h
    exact ⟨h', n', he⟩
  · cases h
def oraD : CallT := oraOr oraF (oraC (fun f args => Nat.beq f 83 && vsEq args [plate0, plate0]) (.int .i64 0))
theorem oraD_ok : CallOK Tryz.prog 4 oraD := oraOr_ok oraF_ok (oraC_ok rfl fun f args h => by
  simp only [Bool.and_eq_true] at h
  have e1 := Nat.eq_of_beq_eq_true h.1
  have e2 := vsEq_ok h.2
  subst e1; subst e2
  exact ⟨rfl, dist_any⟩)
end Go.Proofs.YtelnnjofccldgaaGreatDoor
