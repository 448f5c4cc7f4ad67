/-
  Layer 10 (plate): the walk of the reference's Normal (strings of any size that can be handed over).
-/
import Derived.Test.YtifcelebfagjbaaGreatDoorProg
import Derived.Test.YtifcelebfagjbaaGreatDoorPlatePure
import Derived.Deep.RegionWith
namespace Go.Proofs.YtifcelebfagjbaaGreatDoor
open Go.RowKit Go.Tw Go.Tw.Plate

theorem slU8 : SlT Tryz.prog 211 5 1 1 := SlT.of (z := .int .u8 0) Tryz.underlying211 (by kernel_rfl) rfl (by decide)
theorem flatU8 : tU8.Flat := fun h => h

theorem ret_norm {a : ByteArray} {b : Int} {o : ByteArray × Int} (h : o = (a, b)) : Ending.returned (.tuple #[.string a, .int .i64 b]) = .returned (.tuple #[.string o.1, .int .i64 o.2]) := by rw [h]
theorem conv_out {w : World} {B : Nat} {v : Value} {out : List Int} (h : OwnSl tU8 5 B w v out) (h0 : 0 < out.length) : (convert 211 9 v).run Tryz.prog w = .ok (.string (strOfNums out)) w := by
  obtain ⟨ao, cap, b, off, rfl, h1, h2, h3⟩ := h.sl.openS
  have := run_convert_bytes_arg (P := Tryz.prog) w 211 5 Tryz.underlying211 Tryz.underlying5 b off out.length cap out rfl (fun i hi => by
    obtain ⟨_, _, _, cs, g1, rfl, _⟩ := h3 w (SameOn.refl _ _) i hi
    have := g1 0 (by decide)
    simp [tU8] at this
    rw [this, List.getD_eq_getElem?_getD, List.getElem?_eq_getElem hi]; rfl) 9 Tryz.underlying9
  obtain ⟨rfl, _⟩ := h3 w (SameOn.refl _ _) 0 h0
  exact this

theorem ten (n : Nat) : (Hid (n = 10) ∧ ((n : Int) == 10) = true) ∨ (Hid (¬ n = 10) ∧ ((n : Int) == 10) = false) := by
  by_cases h : n = 10
  · exact .inl ⟨Lib.hid h, by simp; omega⟩
  · exact .inr ⟨Lib.hid h, by simp; omega⟩
set_option maxRecDepth 100000 in
set_option maxHeartbeats 2000000 in
theorem NormalR_any (s : ByteArray) (w : World) (hs : s.size ≤ 140737488351232) :
    Calls Tryz.prog 132 #[.string s] w fun e w' => e = .returned (.tuple #[.string (normS (normGoR [] (codes s))).1, .int .i64 (normS (normGoR [] (codes s))).2]) ∧ Below w.heap.size w w' := by
  go_enter Tryz.func132, Tryz.ntmps132
  go_wp2
  go_loopg [5, 4] s.size (fun g i v wr => ∃ (k : Nat) (out : List Int), k + g = s.size ∧ i = .int .i64 k ∧ normGoR [] (codes s) = normGoR out ((codes s).drop k) ∧ out.length ≤ k ∧ (∀ x ∈ out, isByte x) ∧ OwnSl tU8 5 w.heap.size wr v out ∧ Below w.heap.size w wr)
  case atStart => exact ⟨0, [], by omega, rfl, rfl, by simp, by simp, OwnSl.nil _ _ _ _, Below.refl _ _⟩
  case round =>
    obtain ⟨k, out, hk, rfl, he, ho, hby, hown, hb1⟩ := hrel
    have HE := Lib.hid he; clear he
    have HB := Lib.hid hby; clear hby
    have HO := Lib.hid hown
    obtain ⟨ao, cap, rfl, ho1, ho2⟩ := hown.form
    unfold maxLen at ho2
    have HC := Lib.hid (conv_out hown)
    clear hown
    by_cases hlt : k < s.size
    · have k0 : (0 : Int) ≤ (k : Int) := by omega
      have k1 : (k : Int) < (s.size : Int) := by omega
      have hkl : k < (codes s).length := by rw [codes_len]; exact hlt
      have hsb := hb1.size
      have b2 : 0 ≤ (s[k].toNat : Int) := by omega
      have b3 : (s[k].toNat : Int) ≤ 255 := by have := s[k].toNat_lt; omega
      rcases norm_ways (out := out) hkl (codes_get s hlt) with ⟨a1, a2, N, NR⟩ | ⟨a1, a2, a3, N, NR⟩ | ⟨a1, a2, a3, a4, a5, a6, a7, a8, N, NR⟩ | ⟨a1, a2, a3, a4, a5, N, NR⟩ | ⟨a1, a2, a3, a4, a5, a6, N, NR⟩ | ⟨a1, a2, a3, a4, a5, N, NR⟩ | ⟨a1, a2, a3, a4, a5, a6, N, NR⟩ | ⟨a1, a2, a3, a4, a5, a6, a7, N, NR⟩ | ⟨a1, a2, a3, a4, a5, a6, a7, a8, N, NR⟩
      all_goals
        have HN := Lib.hid N
        have HNR := Lib.hid NR
        clear N NR
      all_goals
        first
          | (have z1 : decide ((s[k].toNat : Int) ≤ 57) = false := by (simp; omega))
          | skip
        first
          | (have z2 : decide ((s[k].toNat : Int) ≤ 90) = false := by (simp; omega))
          | skip
      all_goals
        rcases ten out.length with ⟨hq, hq'⟩ | ⟨hq, hq'⟩
      all_goals
        go_wp2_with (
          at_builtin
          refine wpList_append_one (.tmp 45) (.tmp 47) rfl 211 rfl slU8 rfl HO.out rfl (S := fun _ => False) ⟨rfl, by omega, by omega⟩ (fun _ h => h.elim) (by omega) (by unfold maxLen; omega) hsb ?_
          intro v' w2 ho2 hg2 hb2)
      all_goals first
        | (go_ret2
           exact ⟨ret_norm (by rw [HE.out, HNR.out]; first | rfl | (rw [if_pos hq.out]; rfl)), hb1⟩)
        | (go_roundg (s.size - (k + 1))
           case measure => omega
           case rel => exact ⟨k + 1, out, by omega, by go_num, HE.out.trans HNR.out, by omega, HB.out, HO.out, hb1⟩)
        | (go_roundg (s.size - (k + 1))
           case measure => omega
           case rel =>
             refine ⟨k + 1, out ++ [_], by omega, by go_num, HE.out.trans (HNR.out.trans (by first | exact if_neg hq.out | rfl)), by have := hq.out; simp; omega, fun x hx => ?_, ho2, hb1.trans hb2⟩
             rcases List.mem_append.1 hx with hx | hx
             · exact HB.out x hx
             · simp at hx; subst hx; unfold isByte; omega)
    · by_cases h2 : out.length < 2
      · have h2' : (out.length : Int) < 2 := by omega
        go_wp2
        all_goals
          go_ret2
          exact ⟨ret_norm (by rw [HE.out, normGoR_end (by rw [codes_len]; omega), if_pos (.inl h2)]; rfl), hb1⟩
      · have h2' : ¬ (out.length : Int) < 2 := by omega
        by_cases h3 : 10 < out.length
        · have h3' : (10 : Int) < (out.length : Int) := by omega
          go_wp2
          all_goals
            go_ret2
            exact ⟨ret_norm (by rw [HE.out, normGoR_end (by rw [codes_len]; omega), if_pos (.inr h3)]; rfl), hb1⟩
        · have h3' : ¬ (10 : Int) < (out.length : Int) := by omega
          have hcv := HC.out (by omega)
          go_wp2
          all_goals
            go_ret2
            exact ⟨ret_norm (by rw [HE.out, normGoR_end (by rw [codes_len]; omega), if_neg (by omega)]; rfl), hb1⟩
end Go.Proofs.YtifcelebfagjbaaGreatDoor
