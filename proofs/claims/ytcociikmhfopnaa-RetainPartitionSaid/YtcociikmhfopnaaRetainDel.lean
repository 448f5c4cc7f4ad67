/-
  slices.Delete of one string, in a slice of the call's own.
-/
import Derived.Test.YtcociikmhfopnaaRetainHold
import Derived.Deep.RegionLaw
import Derived.Lib.SliceRun
namespace Go.Tw
open Go.RowKit
theorem setCells_heap {g : Nat} {e : TypeId} : ∀ (vs : List Value) (o : Nat) (w : World) (cur : Array Value), w.heap[g]? = some (.cells cur e (0, 0)) → ∃ cur', (w.setCells g o vs).heap[g]? = some (.cells cur' e (0, 0)) ∧ cur'.size = cur.size
  | [], _, w, cur, h => ⟨cur, h, rfl⟩
  | v :: r, o, w, cur, h => by
    obtain ⟨cur', h1, h2⟩ := setCells_heap r (o + 1) (w.setCell ⟨g, o, none⟩ v) _ (heap_setCell_same _ _ _ _ _ _ h)
    exact ⟨cur', h1, by simpa using h2⟩
theorem setCells_other {g b : Nat} (hb : b ≠ g) : ∀ (vs : List Value) (o : Nat) (w : World), (w.setCells g o vs).heap[b]? = w.heap[b]?
  | [], _, _ => rfl
  | _ :: r, o, _ => (setCells_other hb r (o + 1) _).trans (Below.heap_setCell _ _ _ _ (fun e => hb e))
theorem below_setCells {B g : Nat} {w0 : World} (hB : B ≤ g) : ∀ (vs : List Value) (o : Nat) (w : World), Below B w0 w → Below B w0 (w.setCells g o vs)
  | [], _, _, h => h
  | v :: r, o, _, h => below_setCells hB r (o + 1) _ (h.setCell (p := ⟨g, o, none⟩) hB v)
theorem OwnSl.strs {w : World} {g cap : Nat} {cur : Array Value} {e : TypeId} {l : List ByteArray} (hg : w.heap[g]? = some (.cells cur e (0, 0))) (hc : l.length ≤ cap) (hm : cap ≤ maxLen) (hs : cur.size = cap * 1)
    (hcell : ∀ t (ht : t < l.length), w.cell? ⟨g, t, none⟩ = some (.string l[t])) (hsz : ∀ t (ht : t < l.length), l[t].size ≤ maxLen) : OwnSl tStr e 0 w (.slice (some ⟨g, 0, none⟩) l.length cap) l := by
  have fl : ∀ l : List ByteArray, (l.map fun x => [Value.string x]).flatten = l.map Value.string := fun l => by induction l with
    | nil => rfl
    | cons x l ih => simp [ih]
  refine ⟨l.map fun x => [.string x], ⟨by rw [fl]; simp [tStr], .inr ⟨g, cap, cur, rfl, Nat.zero_le _, hg, hc, hm, hs, ?_⟩⟩, ?_⟩
  · rw [fl]
    apply List.ext_getElem?
    intro t
    rw [List.getElem?_take, List.getElem?_map]
    by_cases ht : t < l.length
    · rw [if_pos (by simpa [tStr] using ht), List.getElem?_eq_getElem ht]
      have := hcell t ht
      simp only [World.cell?, hg] at this
      simpa using this
    · rw [if_neg (by simpa [tStr] using ht), List.getElem?_eq_none (by omega)]; rfl
  · have key : ∀ l : List ByteArray, (∀ t (ht : t < l.length), l[t].size ≤ maxLen) → AllIs tStr (fun k => k < w.heap.size ∧ some k ≠ some g) w (l.map fun x => [.string x]) l := fun l => by
      induction l with
      | nil => exact fun _ => trivial
      | cons x l ih => exact fun h => ⟨⟨rfl, h 0 (by simp)⟩, ih fun t ht => h (t + 1) (by simpa using ht)⟩
    exact key l hsz
theorem ownStr_flat {w : World} : ∀ {Fs : List (List Nat)} {css : List (List Value)} {l : List ByteArray}, AllOwn tStr w Fs css l → Fs.flatten = []
  | [], [], [], _ => rfl
  | F :: Fs, cs :: css, x :: l, h => by rw [List.flatten_cons, ownStr_flat h.2, h.1.1]; rfl
  | [], [], _ :: _, h => h.elim
  | [], _ :: _, _, h => h.elim
  | _ :: _, [], _, h => h.elim
  | _ :: _, _ :: _, [], h => h.elim
end Go.Tw
namespace Go.Proofs.Ytcociikmhfopnaa
open Go.RowKit Go.Tw Go.Tw.Retain

/-- what slices.Delete leaves -/
def DelOut (F : List Nat) (w : World) (g : Nat) (l : List ByteArray) (i : Nat) (e : Ending) (w' : World) : Prop :=
  ∃ v', e = .returned v' ∧ OwnL tStr 9 F w' v' (l.eraseIdx i) ∧ (∀ b, b ≠ g → w'.heap[b]? = w.heap[b]?) ∧ ∀ B, B ≤ g → Below B w w'

set_option maxRecDepth 1000000 in
set_option maxHeartbeats 2000000 in
theorem del_any (l : List ByteArray) (g cap i : Nat) (F : List Nat) (w : World) (h : OwnL tStr 9 F w (.slice (some ⟨g, 0, none⟩) l.length cap) l) (hi : i < l.length) :
    Calls Try.prog 40 #[.slice (some ⟨g, 0, none⟩) l.length cap, .int .i64 i, .int .i64 ((i : Int) + 1)] w (DelOut F w g l i) := by
  obtain ⟨-, ⟨i0, z0, hi0, hz0, hz1, hz2, hz3⟩, -⟩ := slStr
  obtain ⟨css, Fs, h1, h2, hF⟩ := h
  have hsl : SlIs tStr (fun _ => True) w (.slice (some ⟨g, 0, none⟩) l.length cap) l := by
    have := (show OwnL tStr 9 F w (.slice (some ⟨g, 0, none⟩) l.length cap) l from ⟨css, Fs, h1, h2, hF⟩).sl
    exact this.keep (fun _ _ => trivial) (SameOn.refl _ _)
  obtain ⟨_, hB, hg, hcap, hm, hcs, htk⟩ : ∃ cur, 0 ≤ g ∧ w.heap[g]? = some (.cells cur 9 (0, 0)) ∧ l.length ≤ cap ∧ cap ≤ maxLen ∧ cur.size = cap * 1 ∧ cur.toList.take (l.length * 1) = css.flatten := by
    rcases h1.2 with ⟨q, _⟩ | ⟨g', cap', cur, q, q1, q2, q3, q4, q5, q6⟩
    · cases q
    · simp only [Value.slice.injEq, Option.some.injEq, Addr.mk.injEq] at q
      obtain ⟨⟨rfl, _⟩, _, rfl⟩ := q
      exact ⟨cur, q1, q2, q3, q4, q5, q6⟩
  rename_i cur
  have hcell : ∀ t (ht : t < l.length), w.cell? ⟨g, t, none⟩ = some (.string l[t]) := fun t ht => by
    obtain ⟨ao, cap', b, off, q, _, _, qq⟩ := strs_open hsl
    simp only [Value.slice.injEq] at q
    obtain ⟨rfl, _, _⟩ := q
    obtain ⟨q1, _, _, q2, _⟩ := qq w (SameOn.refl _ _) t ht
    simp only [Option.some.injEq, Addr.mk.injEq] at q1
    obtain ⟨rfl, rfl, _⟩ := q1
    simpa using q2
  have hsz : ∀ t (ht : t < l.length), l[t].size ≤ maxLen := fun t ht => by
    obtain ⟨ao, cap', b, off, q, _, _, qq⟩ := strs_open hsl
    exact (qq w (SameOn.refl _ _) t ht).2.2.2.2
  have hfr : ∀ t, w.frozen? ⟨g, t, none⟩ = false := fun t => frozen_of_row _ _ t _ _ hg
  unfold maxLen at hm
  obtain ⟨news, hnews⟩ : ∃ news, news = (l.drop (i + 1)).map Value.string := ⟨_, rfl⟩
  have hlen : news.length = l.length - (i + 1) := by rw [hnews]; simp
  have hget : ∀ t (ht : i + 1 + t < l.length), news[t]? = some (.string l[i + 1 + t]) := by
    intro t ht
    rw [hnews, List.getElem?_map, List.getElem?_drop, List.getElem?_eq_getElem ht]; rfl
  obtain ⟨A, hA, hsrc⟩ : ∃ A : Addr, (if cap = i + 1 then some (⟨g, 0, none⟩ : Addr) else some ⟨g, i + 1, none⟩) = some A ∧ Hid (∀ t u, news[t]? = some u → w.drew.cell? (A.add t) = some u) := by
    by_cases h : cap = i + 1
    · refine ⟨⟨g, 0, none⟩, by simp [h], fun t u hu => ?_⟩
      have h0 : news.length = 0 := by rw [hlen]; omega
      rw [List.length_eq_zero_iff.1 h0] at hu
      simp at hu
    · refine ⟨⟨g, i + 1, none⟩, by simp [h], fun t u hu => ?_⟩
      have ht : t < l.length - (i + 1) := by
        have := (List.getElem?_eq_some_iff.1 hu).1
        rwa [hlen] at this
      rw [hget t (by omega)] at hu
      rw [Addr.add_lit]
      exact (hcell (i + 1 + t) (by omega)).trans hu
  have s1 : Hid (news.length = (l.length - (i + 1)) * 1) := by rw [Nat.mul_one]; exact hlen
  have s2 : Hid (∀ u ∈ news, u.oneCell' = true) := by
    intro u hu
    rw [hnews] at hu
    obtain ⟨x, _, rfl⟩ := List.mem_map.1 hu
    rfl
  have s3 : Hid (∀ t, t < news.length → (w.drew.cell? ⟨g, 0 + i * 1 + t, none⟩).isSome = true ∧ w.drew.frozen? ⟨g, 0 + i * 1 + t, none⟩ = false) := by
    intro t ht
    rw [hlen] at ht
    rw [Nat.mul_one, Nat.zero_add]
    exact ⟨by show (w.cell? _).isSome = true; rw [hcell (i + t) (by omega)]; rfl, hfr (i + t)⟩
  obtain ⟨W1, hW1⟩ : ∃ W1, W1 = w.drew.setCells g (0 + i * 1) news := ⟨_, rfl⟩
  have hm1 : i + (l.length - (i + 1)) = l.length - 1 := by omega
  have hold : ∀ t, t < l.length → (w.drew.cell? ⟨g, t, none⟩).isSome = true := fun t ht => by show (w.cell? _).isSome = true; rw [hcell t ht]; rfl
  have hc1 : ∀ t, t < l.length → (W1.cell? ⟨g, t, none⟩).isSome = true := fun t ht => by
    rw [hW1]
    by_cases q : i ≤ t ∧ t < l.length - 1
    · have := World.cell?_setCells_in g news (0 + i * 1) w.drew (fun j hj => by rw [hlen] at hj; exact hold _ (by omega)) (t - i) (by omega)
      rw [show 0 + i * 1 + (t - i) = t by omega] at this
      rw [this]; rfl
    · rw [World.cell?_setCells_out g news (0 + i * 1) w.drew _ (fun _ _ => by simp only; omega)]
      exact hold t ht
  have hf1 : ∀ t, W1.frozen? ⟨g, t, none⟩ = false := fun t => by rw [hW1, World.frozen?_setCells]; exact hfr t
  have hcl : ∀ ty, (Builtin.clear_ #[23] ty #[.slice (some ⟨g, i + (l.length - (i + 1)), none⟩) (l.length - (i + (l.length - (i + 1)))) (cap - (i + (l.length - (i + 1))))]).run Try.prog W1 = .ok (.tuple #[]) (W1.setCells g (i + (l.length - (i + 1))) (List.replicate (l.length - (i + (l.length - (i + 1)))) (.string ByteArray.empty))) :=
    fun ty => Lib.run_clear_slice W1 _ 9 ty (.string ByteArray.empty) Try.underlying23 (fun _ => by kernel_rfl) rfl rfl g (i + (l.length - (i + 1))) _ _ (by omega) (fun t ht => hc1 _ (by omega)) (fun t ht => hf1 _)
  have hcur : ∀ t (ht : t < l.length - 1), (W1.setCells g (i + (l.length - (i + 1))) (List.replicate (l.length - (i + (l.length - (i + 1)))) (.string ByteArray.empty))).cell? ⟨g, t, none⟩ = some (.string ((l.eraseIdx i)[t]'(by rw [List.length_eraseIdx_of_lt hi]; omega))) := fun t ht => by
    rw [World.cell?_setCells_out g _ _ W1 _ (fun _ _ => by simp only; omega), hW1, List.getElem_eraseIdx]
    by_cases q : t < i
    · rw [dif_pos q, World.cell?_setCells_out g news (0 + i * 1) w.drew _ (fun _ _ => by simp only; omega)]
      exact hcell t (by omega)
    · rw [dif_neg q]
      have := World.cell?_setCells_in g news (0 + i * 1) w.drew (fun j hj => by rw [hlen] at hj; exact hold _ (by omega)) (t - i) (by omega)
      rw [show 0 + i * 1 + (t - i) = t by omega] at this
      rw [this]
      have h2 := hget (t - i) (by omega)
      rw [List.getElem?_eq_getElem (by omega)] at h2
      simp only [Option.some.injEq] at h2
      rw [h2]
      simp only [show i + 1 + (t - i) = t + 1 by omega]
  have HC := Lib.hid hcur
  have HSZ := Lib.hid hsz
  have HG := Lib.hid hg
  have HW := Lib.hid hW1
  have HF := Lib.hid (show F = [g] by rw [hF, ownStr_flat h2]; rfl)
  have HCS := Lib.hid hcs
  have hic : i ≤ cap := by omega
  have hjc : i + 1 ≤ cap := by omega
  have hwr : IntKind.i64.wrap ((i : Int) + 1) = (i : Int) + 1 := by rw [IntKind.wrap_i64]; omega
  have hp0 : (0 : Int) ≤ (i : Int) + 1 := by omega
  have hp1 : (i : Int) + 1 ≤ (l.length : Int) := by omega
  have hp2 : ((i : Int) + 1).toNat = i + 1 := by omega
  have hp3 : ((i : Int) == (i : Int) + 1) = false := by simp; omega
  have hp4 : (i : Int) ≤ (i : Int) + 1 := by omega
  clear hcell hfr hget hnews hlen hW1 hold hc1 hf1 hcur hsz hg hsl h1 h2 htk hF hcs hm1
  go_enter Try.func40, Try.ntmps40
  go_wp2_with fail
  go_region_law (refine step_append_room rfl (.tmp 22) (.tmp 25) 23 rfl 9 i0 1 Try.underlying23 hi0 hz1 g 0 i cap (by simp [Act.eval, Act.put]) A (l.length - (i + 1)) (cap - (i + 1)) news (by simp [Act.eval, Act.put]) s1.out hsrc.out s2.out (by omega) s3.out ?_; rw [← HW.out])
  go_wp2
  go_ret
  have hG := HG.out
  obtain ⟨cur1, c1, c2⟩ := setCells_heap news (0 + i * 1) w.drew cur hG
  rw [← HW.out] at c1
  obtain ⟨cur2, c3, c4⟩ := setCells_heap (List.replicate (l.length - (i + (l.length - (i + 1)))) (.string ByteArray.empty)) (i + (l.length - (i + 1))) W1 cur1 c1
  have hle : (l.eraseIdx i).length = l.length - 1 := by rw [List.length_eraseIdx_of_lt hi]
  have hl2 : i + (l.length - (i + 1)) = (l.eraseIdx i).length := by omega
  have ow := OwnSl.strs (l := l.eraseIdx i) (cap := cap) c3 (by omega) (by unfold maxLen; omega) (by rw [c4, c2]; exact HCS.out) (fun t ht => HC.out t (by rw [hle] at ht; exact ht)) (fun t ht => by
    rw [List.getElem_eraseIdx]
    split
    · exact HSZ.out _ _
    · exact HSZ.out _ _)
  rw [← hl2] at ow
  refine ⟨_, rfl, ?_, fun b hb => ?_, fun B hB => ?_⟩
  · have := (OwnL.ofOwn ownStr ow).1
    rw [HF.out]
    exact this
  · exact (setCells_other hb _ _ _).trans (by rw [HW.out]; exact setCells_other hb _ _ _)
  · refine below_setCells hB _ _ _ ?_
    rw [HW.out]
    exact below_setCells hB _ _ _ ((Below.refl _ _).drew)
end Go.Proofs.Ytcociikmhfopnaa
