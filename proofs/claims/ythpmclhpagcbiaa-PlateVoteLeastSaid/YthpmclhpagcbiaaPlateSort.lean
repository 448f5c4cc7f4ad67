/-
  Layer 10 (plate): sorting a slice of strings of the call's own; SortFunc and Sort of nothing.
-/
import Derived.Test.YthpmclhpagcbiaaPlateVoteP
import Derived.LoopN
namespace Go.Proofs.Ythpmclhpagcbiaa
open Go.RowKit Go.Tw Go.Tw.Plate Go.Sort

theorem ins_nil (fv : Value) (cap : Nat) (w : World) : Calls Try.prog 47 #[.slice none 0 cap, .int .i64 0, .int .i64 0, fv] w fun e w' => e = .returned (.tuple #[]) ∧ w = w' := by
  go_enter Try.func47, Try.ntmps47
  go_wp2
  refine wp_loop_rounds 1 ?_
  rw [rounds_succ]
  go_wp2
  go_end0
  exact ⟨rfl, rfl⟩
theorem pdq_nil (fv : Value) (cap : Nat) (n : Int) (w : World) : Calls Try.prog 41 #[.slice none 0 cap, .int .i64 0, .int .i64 0, .int .i64 n, fv] w fun e w' => e = .returned (.tuple #[]) ∧ w = w' := by
  go_enter Try.func41, Try.ntmps41
  go_wp2
  refine wp_loop_rounds 1 ?_
  rw [rounds_succ]
  go_wp2_with (go_at_call 47; refine (ins_nil _ _ _).mono ?_; rintro e w' ⟨rfl, rfl⟩)
  exact bodyPost_ret (results_none rfl _ _ _) rfl ⟨rfl, rfl⟩
theorem sortFunc_nil (fv : Value) (cap : Nat) (w : World) : Calls Try.prog 32 #[.slice none 0 cap, fv] w fun e w' => e = .returned (.tuple #[]) ∧ w = w' := by
  go_enter Try.func32, Try.ntmps32
  go_wp2_with (first
    | (go_at_call 42; refine (Try.bits_Len 0 _ (by omega) (by omega)).mono ?_; rintro e w' ⟨rfl, rfl⟩)
    | (go_at_call 41; refine (pdq_nil _ _ _ _).mono ?_; rintro e w' ⟨rfl, rfl⟩))
  go_end0
  exact ⟨rfl, rfl⟩

/-- a slice of strings of the call's own: nothing, or a block whose cells hold them -/
theorem own_holds {B : Nat} {w : World} {v : Value} {l : List ByteArray} (h : OwnSl tStr 9 B w v l) :
    (v = .slice none 0 0 ∧ l = []) ∨ ∃ g cap, v = .slice (some ⟨g, 0, none⟩) l.length cap ∧ l.length ≤ cap ∧ cap ≤ maxLen ∧ B ≤ g ∧ g < w.heap.size ∧ (∀ x ∈ l, x.size ≤ maxLen) ∧
      Holds Value.string w g 0 l.toArray := by
  have hsl := h.sl
  obtain ⟨css, h1, h2⟩ := h
  rcases h1.2 with ⟨rfl, h'⟩ | ⟨g, cap, cur, rfl, hB, hg, h3, h4, _, h6⟩
  · exact .inl ⟨rfl, List.eq_nil_of_length_eq_zero h'⟩
  · obtain ⟨ao, cap', b, off, hv, q1, q2, ho⟩ := strs_open hsl
    simp only [Value.slice.injEq] at hv
    obtain ⟨rfl, -, rfl⟩ := hv
    refine .inr ⟨g, cap, rfl, h3, h4, hB, lt_of_heap hg, fun x hx => ?_, fun j hj => ?_⟩
    · obtain ⟨j, hj, rfl⟩ := List.getElem_of_mem hx
      exact (ho w (SameOn.refl _ _) j hj).2.2.2.2
    · have hj' : j < l.length := by simpa using hj
      obtain ⟨e, -, -, e2, -⟩ := ho w (SameOn.refl _ _) j hj'
      simp only [Option.some.injEq, Addr.mk.injEq, and_true] at e
      obtain ⟨rfl, rfl⟩ := e
      refine ⟨?_, ?_⟩
      · rw [e2, getElem!_pos l.toArray j hj]
        simp
      · simp only [World.frozen?, hg]
        simp
/-- .. and back, in the world behind a sorting -/
theorem holds_sl {w : World} {g cap : Nat} {l : List ByteArray} (h : Holds Value.string w g 0 l.toArray) (hg : g < w.heap.size) (h1 : l.length ≤ cap) (h2 : cap ≤ maxLen) (hs : ∀ x ∈ l, x.size ≤ maxLen) :
    SlIs tStr (· < w.heap.size) w (.slice (some ⟨g, 0, none⟩) l.length cap) l := by
  refine ⟨some ⟨g, 0, none⟩, cap, g, 0, rfl, h1, h2, fun e => (by cases e), fun k hk => ⟨rfl, hg, hg, [.string l[k]], fun j hj => ?_, rfl, hs _ (List.getElem_mem hk)⟩⟩
  obtain rfl : j = 0 := by
    have : j < 1 := hj
    omega
  have := (h k (by simpa using hk)).1
  rw [getElem!_pos l.toArray k (by simpa using hk)] at this
  show w.cell? ⟨g, 0 + k * 1 + 0, none⟩ = some (.string l[k])
  rw [show 0 + k * 1 + 0 = 0 + k by omega, this]
  simp
theorem perm_of {d d' : Array ByteArray} (h : PermIn 0 d.size d d') : d'.toList.Perm d.toList := by
  have := h.2.2
  rw [Array.extract_size] at this
  rw [show d'.extract 0 d.size = d' by rw [← h.1, Array.extract_size]] at this
  exact this
theorem sorted_of {lt : ByteArray → ByteArray → Bool} {d : Array ByteArray} {n : Nat} (hn : d.size = n) (h : SortedIn lt 0 n d) : d.toList.Pairwise (fun x y => lt y x = false) := by
  rw [List.pairwise_iff_getElem]
  intro i j hi hj hij
  have := h i j (Nat.zero_le _) hij (by simpa [← hn] using hj)
  rw [getElem!_pos d j (by simpa using hj), getElem!_pos d i (by simpa using hi)] at this
  exact this
theorem sortWorld_below {α : Type} [Inhabited α] (enc : α → Value) (w : World) (blk off m : Nat) (dk : Array α) (os : Array Obj) {B : Nat} (hB : B ≤ w.heap.size) (hb : B ≤ blk) : Below B w (sortWorld enc w blk off m dk os) :=
  ⟨rfl, rfl, rfl, by
    unfold sortWorld Sort.grow Sort.putRow Sort.mapBlock Sort.ahead
    simp, fun k hk => sortWorld_at enc w blk off m dk os (by omega) (by omega)⟩
end Go.Proofs.Ythpmclhpagcbiaa
