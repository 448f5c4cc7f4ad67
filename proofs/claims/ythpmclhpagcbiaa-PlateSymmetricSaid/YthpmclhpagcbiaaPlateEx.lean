/-
  Layer 10 (plate) in plain Lean: the chapter's examples.
-/
import Derived.Test.YthpmclhpagcbiaaPlateVoteP
namespace Go.Tw.Plate
open Go.RowKit

abbrev sAB1 : ByteArray := ⟨#[65, 66, 49]⟩
abbrev sABI : ByteArray := ⟨#[65, 66, 73]⟩
abbrev sAB2 : ByteArray := ⟨#[65, 66, 50]⟩
theorem ex_n1 : normS (normGo [] (codes ⟨#[97, 98, 45, 49, 32, 50, 99]⟩)) = (⟨#[65, 66, 49, 50, 67]⟩, 0) := by rfl
theorem ex_n2 : normS (normGo [] (codes ⟨#[65, 95, 49]⟩)) = (ByteArray.empty, 19) := by rfl
theorem codes_mk (l : List UInt8) : codes ⟨l.toArray⟩ = l.map (fun c => (c.toNat : Int)) := rfl
theorem ex_d1 : distS ⟨#[66, 56, 79, 48]⟩ ⟨#[56, 66, 48, 48]⟩ = 3 := by
  show dist [66, 56, 79, 48] [56, 66, 48, 48] = 3
  simp [dist, D, chg, like, like1, Int.min_def]
theorem ex_d2 : distS ⟨#[65, 66]⟩ ⟨#[65, 88, 66]⟩ = 3 := by
  show dist [65, 66] [65, 88, 66] = 3
  simp [dist, D, chg, like, like1, Int.min_def]
theorem ex_d3 : distS ⟨#[65, 48]⟩ ⟨#[65, 79]⟩ = 1 := by
  show dist [65, 48] [65, 79] = 1
  simp [dist, D, chg, like, like1, Int.min_def]
theorem ex_d4 : distS ⟨#[65, 66]⟩ ⟨#[65]⟩ = 3 := by
  show dist [65, 66] [65] = 3
  simp [dist, D, chg, like, like1, Int.min_def]
theorem ex_d5 : distS sAB1 sABI = 1 := by
  show dist [65, 66, 49] [65, 66, 73] = 1
  simp [dist, D, chg, like, like1, Int.min_def]
theorem ex_d6 : distS sAB2 sAB1 = 3 := by
  show dist [65, 66, 50] [65, 66, 49] = 3
  simp [dist, D, chg, like, like1, Int.min_def]
theorem distS_self (s : ByteArray) : distS s s = 0 := (dist_zero _ _).2 rfl
theorem distS_comm (s t : ByteArray) : distS s t = distS t s := dist_comm _ _
theorem ex_d7 : distS sABI sAB1 = 1 := (distS_comm _ _).trans ex_d5
theorem ne1 : sAB1 ≠ sABI := by intro h; have := congrArg codes h; revert this; decide
theorem ne2 : sAB1 ≠ sAB2 := by intro h; have := congrArg codes h; revert this; decide
theorem ne3 : sABI ≠ sAB2 := by intro h; have := congrArg codes h; revert this; decide
theorem ex_vote : VoteOf [sAB1, sABI, sABI] [900, 400, 400] sAB1 800 := by
  unfold VoteOf
  rw [if_neg (by decide)]
  have v1 : vsum [sAB1, sABI, sABI] [900, 400, 400] sAB1 = 800 := by
    simp only [vsum, distS_self, ex_d5]; decide
  have v2 : vsum [sAB1, sABI, sABI] [900, 400, 400] sABI = 900 := by
    simp only [vsum, distS_self, ex_d7]; decide
  refine ⟨by simp, v1.symm, fun x hx => ?_⟩
  simp only [List.mem_cons, List.not_mem_nil, or_false] at hx
  rcases hx with rfl | rfl | rfl
  · exact .inr ⟨v1.symm, ltL_irrefl _⟩
  · exact .inl (by rw [v2]; decide)
  · exact .inl (by rw [v2]; decide)
theorem ex_near : NearOf sAB1 3 [sAB1, sAB2, sABI, sAB1] [sAB1, sABI, sAB2] := by
  refine ⟨⟨?_, fun x => ?_⟩, ?_⟩
  · simp
  · simp only [List.mem_cons, List.not_mem_nil, or_false]
    constructor
    · rintro (rfl | rfl | rfl)
      · exact ⟨.inl rfl, by rw [distS_self]; decide⟩
      · exact ⟨.inr (.inr (.inl rfl)), by rw [ex_d7]; decide⟩
      · exact ⟨.inr (.inl rfl), by rw [ex_d6]; decide⟩
    · rintro ⟨rfl | rfl | rfl | rfl, -⟩
      · exact .inl rfl
      · exact .inr (.inr rfl)
      · exact .inr (.inl rfl)
      · exact .inl rfl
  · have n1 : nearLt sAB1 sABI sAB1 = false := by unfold nearLt; rw [ex_d7, distS_self]; decide
    have n2 : nearLt sAB1 sAB2 sAB1 = false := by unfold nearLt; rw [ex_d6, distS_self]; decide
    have n3 : nearLt sAB1 sAB2 sABI = false := by unfold nearLt; rw [ex_d6, ex_d7]; decide
    simp [n1, n2, n3]
end Go.Tw.Plate
