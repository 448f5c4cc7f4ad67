/-
  Layer 43 (exchange): the examples (awake).
-/
import Derived.Test.YtmjbbpappigngaaGreatExcEx
import Derived.Test.YtmjbbpappigngaaGreatExcSend
namespace Go.Proofs.YtmjbbpappigngaaGreat
open Go.RowKit Go.Tw Go.Tw.Exc
theorem smallP_of {p : Par} (h1 : p.wt.length ≤ 100) (h2 : ∀ f ∈ p.wt, f.rs.length ≤ 2000) (h3 : p.ours.length ≤ 2000) (h4 : p.thr.length ≤ 2000) : SmallP p := ⟨by omega, fun f hf => by have := h2 f hf; omega, by omega, by omega⟩
theorem small_exP : SmallP exP := smallP_of (by decide) (fun f hf => by cases hf) (by decide) (by decide)
theorem small_exT : SmallP exT := smallP_of (by decide) (fun f hf => by cases hf) (by decide) (by decide)
theorem small_exQ : SmallP exQ := smallP_of (by decide) (fun f hf => by
  rw [List.mem_singleton.1 hf]
  decide) (by decide) (by decide)
theorem exL_fits : ∀ r ∈ exL, -1125899906842624 ≤ r.c ∧ r.c ≤ 1125899906842624 := fun r hr => by
  rw [List.mem_singleton.1 hr]
  decide
theorem exL_sl (w : World) : SlIs tRec (· < (w.alloc (.cells #[.int .i64 1, .string ⟨#[107]⟩, .int .i64 0, .int .i64 500, .int .i64 0] 49)).heap.size) (w.alloc (.cells #[.int .i64 1, .string ⟨#[107]⟩, .int .i64 0, .int .i64 500, .int .i64 0] 49)) (.slice (some ⟨w.heap.size, 0, none⟩) 1 1) exL :=
  SlIs.of_block (css := [recCells exR]) (l := exL) (heap_alloc_new _ _) ⟨[], by rfl⟩ ⟨tRec_mk exR_ok, trivial⟩ (by simp) (by decide) (by decide)
theorem pe_get {w' : World} {e : Ending} {p : Par} {err : Int} {q : Par × Int} (h : PE w' e q) (hq : q = (p, err)) : ∃ a1 l1 c1 a2 l2 c2 a3 l3 c3, e = .returned (.tuple #[.agg #[.string p.nm, .int .i64 p.out, .int .i64 p.inn, .slice a1 l1 c1, .slice a2 l2 c2, .slice a3 l3 c3], .int .i64 err]) ∧ l1 = p.wt.length ∧ l3 = p.thr.length ∧ ParOk (· < w'.heap.size) w' p (.slice a1 l1 c1) (.slice a2 l2 c2) (.slice a3 l3 c3) := by
  subst hq
  obtain ⟨vw, vo, vt, rfl, ho⟩ := h
  obtain ⟨a1, c1, _, _, rfl, -⟩ := id ho.wt
  obtain ⟨a2, c2, _, _, rfl, -⟩ := id ho.ours
  obtain ⟨a3, c3, _, _, rfl, -⟩ := id ho.thr
  exact ⟨_, _, _, _, _, _, _, _, _, rfl, rfl, rfl, ho⟩
theorem se_get {w' : World} {e : Ending} {p : Par} {f : Fil} {err : Int} {q : Par × Fil × Int} (h : SE w' e q) (hq : q = (p, f, err)) : ∃ a1 l1 c1 a2 l2 c2 a3 l3 c3 a4 l4 c4, e = .returned (.tuple #[.agg #[.string p.nm, .int .i64 p.out, .int .i64 p.inn, .slice a1 l1 c1, .slice a2 l2 c2, .slice a3 l3 c3], .agg #[.string f.fr, .string f.to, .int .i64 f.sq, .slice a4 l4 c4], .int .i64 err]) ∧ l1 = p.wt.length ∧ ParOk (· < w'.heap.size) w' p (.slice a1 l1 c1) (.slice a2 l2 c2) (.slice a3 l3 c3) := by
  subst hq
  obtain ⟨vw, vo, vt, vf, rfl, ho, hf⟩ := h
  obtain ⟨a1, c1, _, _, rfl, -⟩ := id ho.wt
  obtain ⟨a2, c2, _, _, rfl, -⟩ := id ho.ours
  obtain ⟨a3, c3, _, _, rfl, -⟩ := id ho.thr
  obtain ⟨a4, c4, _, _, rfl, -⟩ := id hf.rs
  exact ⟨_, _, _, _, _, _, _, _, _, _, _, _, rfl, rfl, ho⟩
end Go.Proofs.YtmjbbpappigngaaGreat
