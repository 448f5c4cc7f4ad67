/-
  Layer 37 (post): the laws' example, computed in plain Lean.
-/
import Derived.Test.YtifcelebfagjbaaGreatDoorMgI
import Derived.Test.YtifcelebfagjbaaGreatDoorMgL
import Derived.Test.YtifcelebfagjbaaGreatDoorMgQ
namespace Go.Tw.Po
open Go.RowKit Go.Tw Go.Sort Go.Tw.Ord Go.Proofs.YtifcelebfagjbaaGreatDoor
def kX : ByteArray := ⟨#[116, 58, 99, 49, 46, 53]⟩
def aX : ByteArray := ⟨#[99, 97, 115, 101, 58, 65, 66, 49, 50]⟩
def rX : ByteArray := ⟨#[114, 101, 118, 101, 110, 117, 101, 58, 109]⟩
def nX : ByteArray := ⟨#[97, 110, 110]⟩
def naX : ByteArray := ⟨#[97, 99, 99, 111, 117, 110, 116, 58, 97, 110, 110]⟩
def cX : Chg := ⟨kX, ⟨#[65, 66, 49, 50]⟩, ⟨#[109]⟩, 1, 100, [⟨⟨#[98, 97, 115, 101]⟩, 400⟩], 400⟩
def e0X : Ent := ⟨⟨#[116, 58, 99, 49, 46, 53, 35, 48]⟩, 100, [⟨aX, 400⟩, ⟨rX, -400⟩]⟩
def p0X : Ent := ⟨⟨#[112, 97, 121, 35, 48]⟩, 200, [⟨sCash, 50⟩, ⟨naX, -50⟩]⟩
def v0X : Ent := ⟨⟨#[116, 58, 99, 49, 46, 53, 35, 49]⟩, 300, [⟨aX, -400⟩, ⟨rX, 400⟩]⟩
theorem fld {s : ByteArray} (h : (decide (s.size ≠ 0) && s.data.toList.all fun c => decide (33 ≤ c.toNat) && decide (c.toNat ≤ 126)) = true) : fieldC s = true := by
  simp only [Bool.and_eq_true, decide_eq_true_eq, List.all_eq_true] at h
  refine field_yes ⟨h.1, fun i hi => ?_⟩
  have := h.2 s[i] (by
    show s.data[i] ∈ s.data.toList
    exact Array.getElem_mem_toList _)
  exact this
theorem chkX : chkC cX = 0 := by decide
theorem debX : debC [] cX = aX := by decide
theorem creX : creC cX = rX := by decide
theorem fmtd {i : Nat} (h : i < 10) : fmtS (i : Int) = ⟨#[UInt8.ofNat (48 + i)]⟩ := by
  unfold fmtS Lib.itoa
  rw [if_neg (by omega), Int.toNat_natCast, Lib.decDigits_one h]
  rfl
theorem key0 : keyC kX ((0 : Nat) : Int) = ⟨#[116, 58, 99, 49, 46, 53, 35, 48]⟩ := by unfold keyC; rw [fmtd (by decide)]; decide
theorem key1 : keyC kX ((1 : Nat) : Int) = ⟨#[116, 58, 99, 49, 46, 53, 35, 49]⟩ := by unfold keyC; rw [fmtd (by decide)]; decide
theorem key2 : keyC kX 2 = ⟨#[116, 58, 99, 49, 46, 53, 35, 50]⟩ := by unfold keyC; rw [show (2 : Int) = ((2 : Nat) : Int) from rfl, fmtd (by decide)]; decide
theorem keyp : keyC sPay ((0 : Nat) : Int) = ⟨#[112, 97, 121, 35, 48]⟩ := by unfold keyC; rw [fmtd (by decide)]; decide
theorem entX (s : ByteArray) (t : Int) (a b : ByteArray) (m n : Int) (h1 : fieldC s = true) (h2 : 0 ≤ t ∧ t ≤ 68719476736) (h3 : fieldC a = true) (h4 : fieldC b = true) (h5 : m ≠ 0 ∧ n ≠ 0) (h6 : fitsM m = true ∧ fitsM n = true) (h7 : m + n = 0) : entC ⟨s, t, [⟨a, m⟩, ⟨b, n⟩]⟩ = 0 := by
  rw [ent_s h1, if_neg (by simp only; omega), if_neg (by simp), if_neg (by simp)]
  have hp : orL ([(⟨a, m⟩ : SI), ⟨b, n⟩].map postE) = 0 := by
    rw [List.map_cons, List.map_cons, List.map_nil, postE_0 h3 h5.1 h6.1, postE_0 h4 h5.2 h6.2]
    rfl
  show postsC [⟨a, m⟩, ⟨b, n⟩] = 0
  rw [posts_sum hp, if_neg]
  show ¬ (sumL [⟨a, m⟩, ⟨b, n⟩] ≠ 0)
  simp [sumL, h7]
theorem fa : fieldC aX = true := fld (by decide)
theorem fr : fieldC rX = true := fld (by decide)
theorem fn : fieldC naX = true := fld (by decide)
theorem fc : fieldC sCash = true := fld (by decide)
theorem e0ok : entC e0X = 0 := entX _ _ _ _ _ _ (fld (by decide)) (by decide) fa fr (by decide) (by decide) (by decide)
theorem v0ok : entC v0X = 0 := entX _ _ _ _ _ _ (fld (by decide)) (by decide) fa fr (by decide) (by decide) (by decide)
theorem p0ok : entC p0X = 0 := entX _ _ _ _ _ _ (fld (by decide)) (by decide) fc fn (by decide) (by decide) (by decide)
theorem postX1 : postL [] e0X = ([e0X], 0) := by
  unfold postL
  rw [e0ok, if_neg (by simp), if_neg (by decide), if_pos (by decide)]; rfl
theorem postX2 : postL [e0X] p0X = ([e0X, p0X], 0) := by
  unfold postL
  rw [p0ok, if_neg (by simp), if_neg (by decide), if_pos (by decide)]; rfl
theorem postX3 : postL [e0X] v0X = ([e0X, v0X], 0) := by
  unfold postL
  rw [v0ok, if_neg (by simp), if_neg (by decide), if_pos (by decide)]; rfl
theorem moveX (n : Int) (_h : n ≠ 0) : moveP [] [] cX n = [⟨aX, n⟩, ⟨rX, -n⟩] := by
  unfold moveP
  rw [debX, creX, addP, addP, if_neg (show aX ≠ rX by decide), addP]
theorem cleanX (a b : ByteArray) (n : Int) (h : n ≠ 0) : cleanP [⟨a, n⟩, ⟨b, -n⟩] = [⟨a, n⟩, ⟨b, -n⟩] := by
  unfold cleanP
  rw [List.filter_cons, if_pos (by simpa using h), List.filter_cons, if_pos (by simpa using h), List.filter_nil]
theorem applyX : applyP [] ⟨[], []⟩ cX = (⟨[e0X], [cX]⟩, 0) := by
  unfold applyP
  rw [chkX, if_neg (by simp)]
  have h1 : enterL [] (keyC cX.key (verN [] cX.key)) cX.tm (postsA [] [] cX) = ([e0X], 0) := by
    have h2 : postsA [] [] cX = [⟨aX, 400⟩, ⟨rX, -400⟩] := moveX 400 (by decide)
    rw [h2]
    unfold enterL
    rw [cleanX aX rX 400 (by decide), if_neg (by simp)]
    exact (show postL [] ⟨keyC kX ((0 : Nat) : Int), 100, [⟨aX, 400⟩, ⟨rX, -400⟩]⟩ = _ from by rw [key0]; exact postX1)
  simp only [h1]
  rfl
theorem payX : payP ⟨[e0X], [cX]⟩ nX 50 200 = (⟨[e0X, p0X], [cX]⟩, 0) := by
  unfold payP
  have hn : nameC nX = true := name_yes (by
    refine ⟨by decide, by decide, fun i h => ?_⟩
    have h3 : i < 3 := h
    have : i = 0 ∨ i = 1 ∨ i = 2 := by omega
    rcases this with rfl | rfl | rfl
    · exact (show nb 0 (nX[0]'(by decide)) from by unfold nb; decide)
    · exact (show nb 1 (nX[1]'(by decide)) from by unfold nb; decide)
    · exact (show nb 2 (nX[2]'(by decide)) from by unfold nb; decide))
  rw [hn, if_neg (by decide), if_neg (by decide), if_neg (by decide)]
  have h1 : postL [e0X] ⟨keyC sPay (payN [e0X]), 200, [⟨sCash, 50⟩, ⟨sAcc ++ nX, -50⟩]⟩ = ([e0X, p0X], 0) := by
    have h2 : payN [e0X] = 0 := by decide
    rw [h2]
    exact (show postL [e0X] ⟨keyC sPay ((0 : Nat) : Int), 200, [⟨sCash, 50⟩, ⟨sAcc ++ nX, -50⟩]⟩ = _ from by rw [keyp]; exact postX2)
  simp only [h1]
  rfl
theorem voidX : voidP [] ⟨[e0X], [cX]⟩ kX 300 = (⟨[e0X, v0X], []⟩, 0) := by
  have hf : fndC [cX] kX = some cX := by decide
  have h1 : enterL [e0X] (keyC kX (verN [e0X] kX)) 300 (moveP [] [] cX (-cX.c)) = ([e0X, v0X], 0) := by
    rw [show moveP [] [] cX (-cX.c) = [⟨aX, -400⟩, ⟨rX, - -400⟩] from moveX (-400) (by decide)]
    unfold enterL
    rw [cleanX aX rX (-400) (by decide), if_neg (by simp)]
    have h2 : verN [e0X] kX = 1 := by decide
    rw [h2]
    exact (show postL [e0X] ⟨keyC kX ((1 : Nat) : Int), 300, [⟨aX, -400⟩, ⟨rX, - -400⟩]⟩ = _ from by rw [key1]; exact postX3)
  rw [vo_s (b := ⟨[e0X], [cX]⟩) hf (by decide) h1, if_neg (by simp)]
  rfl
theorem syncX : syncP [] ⟨[], []⟩ [cX] 300 = (⟨[e0X], [cX]⟩, 0) := by
  refine sy_ok (b1 := ⟨[e0X], [cX]⟩) (by simp [keysC]) ?_ ?_
  · have hs : sortC [cX] = [cX] := by
      have := sortL_perm (c := chgC) [cX]
      exact List.perm_singleton.1 this
    rw [hs, runA, applyX, if_neg (by simp), runA]
  · have hg : goneK [cX] [cX] = [] := by decide
    rw [hg, runV]
theorem entryX : entryP [] cX 100 2 = (⟨⟨#[116, 58, 99, 49, 46, 53, 35, 50]⟩, 100, [⟨aX, 300⟩, ⟨rX, -300⟩]⟩, 0) := by
  rw [ey_s chkX, if_neg (by decide), if_neg (by decide), if_neg (by decide)]
  rw [show cX.c - 100 = 300 from rfl, moveX 300 (by decide)]
  show (Ent.mk (keyC kX 2) 100 _, (0 : Int)) = _
  rw [key2]
theorem postedX : postedC [cX] kX = 400 := by decide
theorem postedY : postedC [] kX = 0 := by decide
theorem balX : balL naX [e0X, p0X] = -50 := by decide
theorem checkX : checkP ⟨[e0X, p0X], [cX]⟩ = 0 := by
  refine ck_0 ?_ ?_ ?_ ?_
  · show orL [entC e0X, entC p0X] = 0
    rw [e0ok, p0ok]; rfl
  · show [e0X.key, p0X.key].Nodup
    decide
  · show orL [chkC cX] = 0
    rw [chkX]; rfl
  · intro i h
    exact absurd h (by show ¬ i + 1 < 1; omega)
theorem checkY : checkP ⟨[], [zeroC]⟩ = 6 := by
  have h1 : orL ([zeroC].map chkC) = 6 := by decide
  have := ck_c (b := ⟨[], [zeroC]⟩) rfl (by simp [keysE]) (by simp only; rw [h1]; decide)
  rw [this]; exact h1
end Go.Tw.Po
