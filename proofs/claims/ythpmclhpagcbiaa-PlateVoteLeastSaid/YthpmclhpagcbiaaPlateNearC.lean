/-
  Layer 10 (plate): the walk of Near's order of two plates (the closure).
-/
import Derived.Test.YthpmclhpagcbiaaPlateCmp
namespace Go.Proofs.Ythpmclhpagcbiaa
open Go.RowKit Go.Tw Go.Tw.Plate

/-- a map of numbers, as read -/
def Reads (fm : ByteArray → Option Value) (fi : ByteArray → Int) : Prop := ∀ x, (fm x).getD (.int .i64 0) = .int .i64 (fi x)
theorem reads_look {w : World} {mb n : Nat} {fm : ByteArray → Option Value} {fi : ByteArray → Int} (hm : MapIs kStr w mb fm n) (hf : Reads fm fi) (x : ByteArray) :
    (Instr.lookup 45 (.map (some mb)) (.string x) false).run Try.prog w = .ok (.int .i64 (fi x)) w := by
  have := hm.look Try.underlying45 Try.underlying9 (z := .int .i64 0) (by kernel_rfl) x false
  rw [if_neg (by simp), hf x] at this
  exact this
def nearC (fi : ByteArray → Int) (x y : ByteArray) : Int := orI (Lib.compareInt (fi x) (fi y)) (cmpS x y)
set_option maxHeartbeats 1000000 in
theorem near_cmp_any (fm : ByteArray → Option Value) (fi : ByteArray → Int) (hf : Reads fm fi) (w : World) (box mb n : Nat) (hb : w.cell? ⟨box, 0, none⟩ = some (.map (some mb))) (hm : MapIs kStr w mb fm n) (x y : ByteArray) :
    Calls Try.prog 33 #[.string x, .string y, .pointer (some ⟨box, 0, none⟩)] w fun e w' => e = .returned (.int .i64 (nearC fi x y)) ∧ ∃ o, w' = w.alloc o := by
  have l1 := reads_look hm hf x
  have l2 := reads_look hm hf y
  clear hm hf
  go_enter Try.func33, Try.ntmps33
  go_wp2_with (first
    | (go_at_call 35; refine (Try.cmp_Compare_int _ _ _).mono ?_; rintro e w' ⟨rfl, rfl⟩)
    | (go_at_call 36; refine (Compare_string_any _ _ _).mono ?_; rintro e w' ⟨rfl, rfl⟩)
    | (go_at_call 34; refine (Or_any (Lib.compareInt (fi x) (fi y)) (cmpS x y) _ _ (by exact heap_alloc_new _ _)).mono ?_; rintro e w' ⟨rfl, rfl⟩))
  go_ret
  exact ⟨rfl, _, rfl⟩
end Go.Proofs.Ythpmclhpagcbiaa
