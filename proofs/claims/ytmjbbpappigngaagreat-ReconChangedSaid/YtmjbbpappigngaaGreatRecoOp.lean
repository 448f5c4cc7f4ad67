/-
  Layer 44 (recon): what the laws are handed (steps, bits, records), read off the form's reading; the laws' boxes.
-/
import Derived.Test.YtmjbbpappigngaaGreatMgM
import Derived.Test.YtmjbbpappigngaaGreatMgL
import Derived.Test.YtmjbbpappigngaaGreatRecoK
import Derived.Test.YtmjbbpappigngaaGreatMgH
import Derived.Test.YtmjbbpappigngaaGreatRows
namespace Go.Proofs.YtmjbbpappigngaaGreat
open Go.RowKit Go.Tw Go.Tw.Exc Go.ChangeShapes Go.WideShapes
theorem own0 : ownKnob Tryz.prog.godebug = none := by kernel_rfl
theorem laid0 : laidOutB Tryz.prog = true := by kernel_rfl
theorem opensRec4 : Opens Tryz.prog 49 tRec :=
  opens_via (fun x => ⟨x.1, x.2.1, x.2.2.1, x.2.2.2.1, x.2.2.2.2⟩) (fun _ => rfl) (opens_struct Tryz.underlying49 (by kernel_rfl) (.cons rfl (by kernel_rfl) (opens_int Tryz.underlying3) (.cons rfl (by kernel_rfl) (opens_str Tryz.underlying9) (.cons rfl (by kernel_rfl) (opens_int Tryz.underlying3) (.cons rfl (by kernel_rfl) (opens_int Tryz.underlying3) (.one rfl (by kernel_rfl) (opens_int Tryz.underlying3)))))))
theorem opensRecs4 {e : TypeId} : Opens Tryz.prog 27 (tRec.list e) := opens_slice Tryz.underlying27 (by kernel_rfl) (by decide) opensRec4
theorem opensBools4 {e : TypeId} : Opens Tryz.prog 23 (tBool.list e) := opens_slice Tryz.underlying23 (by kernel_rfl) (by decide) (opens_bool Tryz.underlying4)
theorem opensDeed : Opens Tryz.prog 58 tDeed :=
  opens_via (fun x => ⟨x.1, x.2.1, x.2.2⟩) (fun _ => rfl) (opens_struct Tryz.underlying58 (by kernel_rfl) (.cons rfl (by kernel_rfl) (opens_int Tryz.underlying3) (.cons rfl (by kernel_rfl) opensRecs4 (.one rfl (by kernel_rfl) opensBools4))))
theorem opensDeeds {e : TypeId} : Opens Tryz.prog 22 (tDeed.list e) := opens_slice Tryz.underlying22 (by kernel_rfl) (by decide) opensDeed
theorem rv2_form {w' : World} {e : Ending} {r : Par × Par} (h : RV2 w' e r) : ∃ u1 c1 u2 c2 u3 c3 g1 h1 g2 h2 g3 h3, e = .returned (.tuple #[.agg #[.string r.1.nm, .int .i64 r.1.out, .int .i64 r.1.inn, .slice u1 r.1.wt.length c1, .slice u2 r.1.ours.length c2, .slice u3 r.1.thr.length c3], .agg #[.string r.2.nm, .int .i64 r.2.out, .int .i64 r.2.inn, .slice g1 r.2.wt.length h1, .slice g2 r.2.ours.length h2, .slice g3 r.2.thr.length h3]]) ∧
    ParOk (· < w'.heap.size) w' r.1 (.slice u1 r.1.wt.length c1) (.slice u2 r.1.ours.length c2) (.slice u3 r.1.thr.length c3) ∧ ParOk (· < w'.heap.size) w' r.2 (.slice g1 r.2.wt.length h1) (.slice g2 r.2.ours.length h2) (.slice g3 r.2.thr.length h3) := by
  obtain ⟨v1, v2, rfl, p1, p2⟩ := h
  obtain ⟨u1, c1, u2, c2, u3, c3, rfl, hq1⟩ := pv_form p1
  obtain ⟨g1, h1, g2, h2, g3, h3, rfl, hq2⟩ := pv_form p2
  exact ⟨_, _, _, _, _, _, _, _, _, _, _, _, rfl, hq1, hq2⟩
theorem rv4_form {w' : World} {e : Ending} {r : Par × Par × Int × Int} (h : RV4 w' e r) : ∃ u1 c1 u2 c2 u3 c3 g1 h1 g2 h2 g3 h3, e = .returned (.tuple #[.agg #[.string r.1.nm, .int .i64 r.1.out, .int .i64 r.1.inn, .slice u1 r.1.wt.length c1, .slice u2 r.1.ours.length c2, .slice u3 r.1.thr.length c3], .agg #[.string r.2.1.nm, .int .i64 r.2.1.out, .int .i64 r.2.1.inn, .slice g1 r.2.1.wt.length h1, .slice g2 r.2.1.ours.length h2, .slice g3 r.2.1.thr.length h3], .int .i64 r.2.2.1, .int .i64 r.2.2.2]) ∧
    ParOk (· < w'.heap.size) w' r.1 (.slice u1 r.1.wt.length c1) (.slice u2 r.1.ours.length c2) (.slice u3 r.1.thr.length c3) ∧ ParOk (· < w'.heap.size) w' r.2.1 (.slice g1 r.2.1.wt.length h1) (.slice g2 r.2.1.ours.length h2) (.slice g3 r.2.1.thr.length h3) := by
  obtain ⟨v1, v2, rfl, p1, p2⟩ := h
  obtain ⟨u1, c1, u2, c2, u3, c3, rfl, hq1⟩ := pv_form p1
  obtain ⟨g1, h1, g2, h2, g3, h3, rfl, hq2⟩ := pv_form p2
  exact ⟨_, _, _, _, _, _, _, _, _, _, _, _, rfl, hq1, hq2⟩
/-- a partner in a box: c the block -/
structure OB1 (p : Par) (u1 u2 u3 : Value) (c : Nat) (w : World) : Prop where
  bx : w.heap[c]? = some (.cells #[.string p.nm, .int .i64 p.out, .int .i64 p.inn, u1, u2, u3] 29 (0, 0))
  ok : ParOk (· < w.heap.size) w p u1 u2 u3
theorem OB1.step {p : Par} {u1 u2 u3 : Value} {c : Nat} {w w' : World} (h : OB1 p u1 u2 u3 c w) (hb : Below w.heap.size w w') : OB1 p u1 u2 u3 c w' := ⟨Go.Tw.Below.at_old hb h.bx, h.ok.step hb⟩
theorem OB1.mk0 {p q : Par} {u1 u2 u3 v1 v2 v3 : Value} {w : World} (h : ParOk (· < w.heap.size) w p u1 u2 u3) :
    OB1 p u1 u2 u3 w.heap.size ((w.alloc (.cells #[.string p.nm, .int .i64 p.out, .int .i64 p.inn, u1, u2, u3] 29)).alloc (.cells #[.string q.nm, .int .i64 q.out, .int .i64 q.inn, v1, v2, v3] 29)) :=
  ⟨alloc2_0 w _ _, h.step (bl_alloc (bl_alloc (Below.refl _ _) _) _)⟩
theorem OB1.mk1 {p q : Par} {u1 u2 u3 v1 v2 v3 : Value} {w : World} (h : ParOk (· < w.heap.size) w q v1 v2 v3) :
    OB1 q v1 v2 v3 (w.heap.size + 1) ((w.alloc (.cells #[.string p.nm, .int .i64 p.out, .int .i64 p.inn, u1, u2, u3] 29)).alloc (.cells #[.string q.nm, .int .i64 q.out, .int .i64 q.inn, v1, v2, v3] 29)) :=
  ⟨alloc2_1 w _ _, h.step (bl_alloc (bl_alloc (Below.refl _ _) _) _)⟩
end Go.Proofs.YtmjbbpappigngaaGreat
