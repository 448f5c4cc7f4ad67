/-
  Layer 43 (exchange) in plain Lean: the chapter's examples.
-/
import Derived.Test.YtmjbbpappigngaaGreatExcClaims
namespace Go.Tw.Exc
open Go.RowKit Go.Tw
def sNorth : ByteArray := ⟨#[110, 111, 114, 116, 104]⟩
def sSouth : ByteArray := ⟨#[115, 111, 117, 116, 104]⟩
def sK : ByteArray := ⟨#[107]⟩
theorem name_north : nameC sNorth = true := name_yes ⟨by decide, by decide, fun i h => by
  have h' : i < 5 := h
  have : i = 0 ∨ i = 1 ∨ i = 2 ∨ i = 3 ∨ i = 4 := by omega
  rcases this with rfl | rfl | rfl | rfl | rfl <;> exact .inl ⟨Nat.le_of_ble_eq_true rfl, Nat.le_of_ble_eq_true rfl⟩⟩
theorem name_south : nameC sSouth = true := name_yes ⟨by decide, by decide, fun i h => by
  have h' : i < 5 := h
  have : i = 0 ∨ i = 1 ∨ i = 2 ∨ i = 3 ∨ i = 4 := by omega
  rcases this with rfl | rfl | rfl | rfl | rfl <;> exact .inl ⟨Nat.le_of_ble_eq_true rfl, Nat.le_of_ble_eq_true rfl⟩⟩
theorem field_k : fieldC sK = true := field_yes ⟨by decide, fun i h => by
  have h' : i < 1 := h
  obtain rfl : i = 0 := by omega
  exact ⟨Nat.le_of_ble_eq_true rfl, Nat.le_of_ble_eq_true rfl⟩⟩
def exR : Rec := ⟨1, sK, 0, 500, 0⟩
def exL : List Rec := [exR]
theorem ne_ns : sNorth ≠ sSouth := by decide
theorem ex_rights : rightsC exL = 0 := by
  have h : rightC exR = 0 := by
    unfold rightC
    rw [if_neg (by decide), if_neg (by rw [show exR.key = sK from rfl, field_k]; decide), if_neg (by decide), if_neg (by decide), if_neg (by decide), if_neg (by decide), if_neg (by decide)]
  show (if rightC exR ≠ 0 then rightC exR else rightsC []) = 0
  rw [if_neg (by rw [h]; decide)]
  rfl
theorem ex_check {fr dst : ByteArray} {sq : Int} (h1 : nameC fr = true) (h2 : nameC dst = true) (h3 : fr ≠ dst) (h4 : 1 ≤ sq) (h5 : sq ≤ 2147483648) : checkC ⟨fr, dst, sq, exL⟩ = 0 := by
  have hh : headC fr dst sq = 0 := by
    unfold headC
    rw [if_neg (by simp [h1, h2]), if_neg h3, if_neg (by omega)]
  unfold checkC
  rw [if_neg (by simp [hh]), if_neg (by show ¬ 1024 < 1; decide), if_neg (by rw [show (Fil.mk fr dst sq exL).rs = exL from rfl, ex_rights]; decide), if_pos (by show fits (sumZ (amts exL)) = true; decide)]
def exP : Par := ⟨sNorth, 1, 1, [], [], []⟩
def exF : Fil := ⟨sSouth, sNorth, 1, exL⟩
def exQ : Par := ⟨sNorth, 2, 1, [exF], exL, []⟩
def exT : Par := ⟨sNorth, 1, 2, [], [], exL⟩
theorem ex_new : newC sNorth = (exP, 0) := by unfold newC; rw [if_neg (by rw [name_north]; decide)]; rfl
theorem ex_send : sendC exP sSouth exL = (exQ, exF, 0) := by
  have hc : checkC ⟨sSouth, exP.nm, exP.out, exL⟩ = 0 := ex_check name_south name_north (fun e => ne_ns e.symm) (by decide) (by decide)
  unfold sendC
  rw [if_neg (by simp [hc]), if_neg (by decide)]
  rfl
theorem ex_ack1 : ackC exQ 1 = ({ exQ with wt := [] }, 0) := by unfold ackC; rw [if_neg (by decide)]; rfl
theorem ex_ack2 : ackC exQ 2 = (exQ, 31) := by unfold ackC; rw [if_pos (by decide)]
theorem ex_recv2 : recvC exP ⟨sNorth, sSouth, 2, exL⟩ = (exP, 31) := by
  have hc : checkC ⟨sNorth, sSouth, 2, exL⟩ = 0 := ex_check name_north name_south ne_ns (by decide) (by decide)
  unfold recvC
  rw [if_neg (by simp [hc]), if_neg (by decide), if_pos (by decide)]
theorem ex_recv1 : recvC exP ⟨sNorth, sSouth, 1, exL⟩ = (exT, 0) := by
  have hc : checkC ⟨sNorth, sSouth, 1, exL⟩ = 0 := ex_check name_north name_south ne_ns (by decide) (by decide)
  unfold recvC
  rw [if_neg (by simp [hc]), if_neg (by decide), if_neg (by decide), if_neg (by decide), if_neg (by decide)]
  rfl
theorem ex_recv0 : recvC exT ⟨sNorth, sSouth, 1, exL⟩ = (exT, 0) := by
  have hc : checkC ⟨sNorth, sSouth, 1, exL⟩ = 0 := ex_check name_north name_south ne_ns (by decide) (by decide)
  unfold recvC
  rw [if_neg (by simp [hc]), if_neg (by decide), if_neg (by decide), if_pos (by decide)]
theorem ex_claim : claimC exL = 500 := by unfold claimC; rfl
theorem ex_claim0 : claimC [] = 0 := rfl
theorem exR_ok : RecOk exR := ⟨(show i64ok 1 by unfold i64ok; decide), (show 1 ≤ maxLen by decide), (show i64ok 0 by unfold i64ok; decide), (show i64ok 500 by unfold i64ok; decide), (show i64ok 0 by unfold i64ok; decide)⟩
end Go.Tw.Exc
