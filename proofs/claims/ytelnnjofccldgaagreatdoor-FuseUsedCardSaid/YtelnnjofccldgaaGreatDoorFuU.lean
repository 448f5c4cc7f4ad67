/-
  Layer 16 (fuse): the program's Used.
-/
import Derived.Test.YtelnnjofccldgaaGreatDoorFuK
import Derived.Shelf.SlicesQ.Load
namespace Go.Tw.Fu
open Go.RowKit Go.Tw Go.Tw.Ps Go.Sort
theorem pas_one {x : Pas} {ao : Option Addr} {n c : Nat} : ∀ u ∈ pCells x (.slice ao n c), u.oneCell' = true := by
  intro u hu
  unfold pCells at hu
  simp only [List.mem_cons, List.not_mem_nil, or_false] at hu
  rcases hu with rfl | rfl | rfl | rfl | rfl | rfl | rfl | rfl <;> rfl
/-- the cells of a row of passages -/
theorem pas_row {e : TypeId} {S : Nat → Prop} {w : World} {v : Value} {l : List Pas} (h : SlIs (tPas e) S w v l) :
    ∃ ao cap b off, v = .slice ao l.length cap ∧ l.length ≤ cap ∧ cap ≤ maxLen ∧ ∀ w', SameOn S w w' → ∀ k (_ : k < l.length), ao = some ⟨b, off, none⟩ ∧ S b ∧ b < w.heap.size ∧ PasOk l[k] ∧
      ∃ a n c, SlIs tSrc S w' (.slice a n c) l[k].src ∧ ∀ j, j < 8 → w'.cell? ⟨b, off + k * 8 + j, none⟩ = (pCells l[k] (.slice a n c))[j]? := by
  obtain ⟨ao, cap, b, off, hv, h1, h2, h3⟩ := h.openS
  refine ⟨ao, cap, b, off, hv, h1, h2, fun w' hw k hk => ?_⟩
  obtain ⟨g1, g2, g2', cs, g3, g4⟩ := h3 w' hw k hk
  obtain ⟨vs, rfl, g5, g6⟩ := tPas_is g4
  obtain ⟨a, c, _, _, rfl, -⟩ := id g6
  exact ⟨g1, g2, g2', g5, a, _, c, g6, g3⟩
theorem load_pas {w : World} {b o : Nat} {x : Pas} {v : Value} (P : Program) (h : ∀ j, j < 8 → w.cell? ⟨b, o + j, none⟩ = (pCells x v)[j]?) : Sem.run P (loadCellsFrom ⟨b, o, none⟩ 0 8 #[]) w = .ok (pCells x v).toArray w :=
  Go.Proofs.run_loadCellsFrom_list P w ⟨b, o, none⟩ (pCells x v) 8 rfl fun j u hu => by
    have hj : j < 8 := (List.getElem?_eq_some_iff.1 hu).1
    rw [Addr.add_lit, h j hj, hu]
theorem flat_take {l : List Pas} {k : Nat} (h : k < l.length) : (l.take (k + 1)).flatMap Pas.src = (l.take k).flatMap Pas.src ++ l[k].src := by
  rw [List.take_succ_eq_append_getElem h, List.flatMap_append]
  simp
theorem flat_len {l : List Pas} (hs : ∀ x ∈ l, x.src.length ≤ 20) : (l.flatMap Pas.src).length ≤ l.length * 20 := by
  induction l with
  | nil => simp
  | cons x l ih =>
    have h1 := hs x (by simp)
    have h2 := ih fun y hy => hs y (by simp [hy])
    simp only [List.flatMap_cons, List.length_append, List.length_cons]
    omega
end Go.Tw.Fu
namespace Go.Proofs.YtelnnjofccldgaaGreatDoor.Fu
open Go.RowKit Go.Tw Go.Tw.Ord Go.Tw.Ps Go.Tw.Fu Go.Sort
/-- the sources of all passages, in their order, each once -/
def UsedL (l : List Pas) (m : List Src) : Prop := ∃ s : List Src, s.Perm (l.flatMap Pas.src) ∧ SrtS s ∧ m = ddT s s.length
theorem slSrcF : SlT Tryz.prog 27 32 2 24 := SlT.of (z := .agg #[.string ByteArray.empty, .int .i64 0]) Tryz.underlying27 (by kernel_rfl) rfl (by decide)
theorem compact_nil (w : World) : Calls Tryz.prog 15 #[.slice none 0 0] w fun e w' => e = .returned (.slice none 0 0) ∧ w' = w := by
  go_enter Tryz.func15, Tryz.ntmps15
  go_wp2
  go_ret
  exact ⟨rfl, rfl⟩
theorem compact_own (L : List Src) (v : Value) (B : Nat) (w : World) (h : OwnSl tSrc 32 B w v L) (hB : B ≤ w.heap.size) :
    Calls Tryz.prog 15 #[v] w fun e w' => (∃ v', e = .returned v' ∧ SlIs tSrc (· < w'.heap.size) w' v' (ddT L L.length)) ∧ Below B w w' := by
  by_cases hl : 0 < L.length
  · obtain ⟨g, cap, rfl, h1, h2, h3, h4, h5⟩ := RowS.of h hl
    refine (compact_any L g cap w (· = g) rfl h5 h2 h3 h4).mono ?_
    rintro e w' ⟨v', rfl, hs, ho⟩
    exact ⟨⟨v', rfl, hs.keep (fun k hk => by subst hk; exact Nat.lt_of_lt_of_le h2.lt ho.sz) (SameOn.refl _ _)⟩, ho.bel.mono h1⟩
  · obtain rfl : L = [] := List.eq_nil_of_length_eq_zero (by omega)
    obtain ⟨css, h1, -⟩ := h
    rcases h1.2 with ⟨rfl, -⟩ | ⟨g, cap, cur, rfl, q1, q2, q3, q4, q5, q6⟩
    · refine (compact_nil w).mono ?_
      rintro e w' ⟨rfl, rfl⟩
      exact ⟨⟨_, rfl, SlIs.nil⟩, Below.refl _ _⟩
    · refine (compact_any [] g cap w (· = g) rfl (fun x hx => by cases hx) ⟨cur, q2, q5, fun k hk => absurd hk (Nat.not_lt_zero _)⟩ q3 q4).mono ?_
      rintro e w' ⟨v', rfl, hs, ho⟩
      exact ⟨⟨v', rfl, hs.keep (fun k hk => by subst hk; exact Nat.lt_of_lt_of_le (lt_of_heap q2) ho.sz) (SameOn.refl _ _)⟩, ho.bel.mono q1⟩
set_option maxRecDepth 100000 in
set_option maxHeartbeats 2000000 in
theorem used_any (l : List Pas) (e : TypeId) (pv : Value) (ra : Option Addr) (rn rc : Nat) (c m : Int) (w : World) (h : SlIs (tPas e) (· < w.heap.size) w pv l) (hl : l.length ≤ 30) (hs : ∀ x ∈ l, x.src.length ≤ 20) :
    Calls Tryz.prog 5 #[.agg #[pv, .slice ra rn rc, .int .i64 c, .int .i64 m]] w fun e w' => (∃ v' s, e = .returned v' ∧ UsedL l s ∧ SlIs tSrc (· < w'.heap.size) w' v' s) ∧ Below w.heap.size w w' := by
  obtain ⟨ao, cp, g, o, rfl, q1, q2, ho⟩ := pas_row h
  unfold maxLen at q2
  have HO := Lib.hid ho
  have HSL := Lib.hid hs
  clear h ho hs
  go_enter Tryz.func5, Tryz.ntmps5
  go_wp2_with (fail)
  go_loopg [3, 9] l.length (fun gx v i wo => ∃ k, k + gx = l.length ∧ i = .int .i64 (k : Nat) ∧ OwnSl tSrc 32 w.heap.size wo v ((l.take k).flatMap Pas.src) ∧ Below w.heap.size w wo)
  case atStart => exact ⟨0, by omega, rfl, OwnSl.nil _ _ _ _, bl_alloc (Below.refl _ _) _⟩
  case round =>
    obtain ⟨wo, rfl⟩ : ∃ wo : World, wo = wr := ⟨_, rfl⟩
    obtain ⟨k, hk, rfl, hown, hb⟩ := hrel
    by_cases hlt : k < l.length
    · obtain ⟨rfl, -, hbk, hok, ax, nx, cx, hsx, hc⟩ := HO.out wo (.of_below hb) k hlt
      have HSX := Lib.hid (show ∀ w', Below wo.heap.size wo w' → SlIs tSrc (· < w.heap.size) w' (.slice ax nx cx) l[k].src from fun w' hw => hsx.keep (fun _ h => h) (SameOn.of_below (hw.mono hb.size)))
      have HTK := Lib.hid (flat_take hlt)
      have HLN := Lib.hid (show ((l.take k).flatMap Pas.src).length + l[k].src.length ≤ 1000 by
        have h1 := flat_len (l := l.take k) (fun x hx => HSL.out x (List.mem_of_mem_take hx))
        have h2 := HSL.out l[k] (List.getElem_mem hlt)
        rw [List.length_take] at h1
        omega)
      generalize l[k] = x at HTK hc hok HSX HLN
      generalize (l.take k).flatMap Pas.src = O at HTK hown HLN
      obtain ⟨A, hA⟩ : ∃ A, (pCells x (.slice ax nx cx)).toArray = A := ⟨_, rfl⟩
      have HB := Lib.hid hb
      have HOW := Lib.hid hown
      have hs1 : A.size = 8 := by rw [← hA]; rfl
      have h1c : ∀ u ∈ A.toList, u.oneCell' = true := by rw [← hA]; exact pas_one
      have ld0 : Sem.run Tryz.prog (loadCellsFrom ⟨g, o + k * 8, none⟩ 0 8 #[]) wo = .ok A wo := by
        rw [← hA]
        exact Fu.load_pas _ fun jj hjj => hc jj hjj
      have n7 : (wo.alloc (.cells A 29)).cell? ⟨wo.heap.size, 7, none⟩ = some (.slice ax nx cx) := by
        rw [cell_of_row _ _ 7 _ _ _ (heap_alloc_new _ _), ← hA]; rfl
      have k0 : (0 : Int) ≤ (k : Int) := by omega
      have k1 : (k : Int) < (l.length : Int) := by omega
      have hsz : w.heap.size ≤ wo.heap.size := HB.out.size
      clear hA hc hok hb hown hbk hsx
      go_wp2_with (first
        | (refine wpList_loadA _ rfl 29 rfl Tryz.isAgg29 Tryz.sizeOf29 rfl (by with_reducible assumption) ?_)
        | (refine wpList_newA 5 rfl (.tmp 12) rfl rfl 29 rfl rfl rfl Tryz.sizeOf29 Tryz.zeroValue29 rfl (by with_reducible assumption) (by with_reducible assumption) (by simp [Act.put]) rfl ?_)
        | (at_builtin
           refine wpList_append_old (.tmp 13) (.tmp 15) rfl 27 rfl slSrcF rfl (HOW.out.alloc _) rfl (HSX.out _ (bl_alloc (Below.refl _ _) _)) (small_bytes HLN.out (by decide)) (Nat.le_trans HLN.out (by decide)) (by simp; omega) ?_
           intro v6 w6 ho6 hg6 hb6
           have HO6 := Lib.hid ho6
           have HB6 := Lib.hid ((bl_alloc HB.out _).trans hb6)
           clear ho6 hg6 hb6 n7 ld0))
      go_roundg (l.length - (k + 1))
      case measure => omega
      case rel => exact ⟨k + 1, by omega, by go_num, HTK.out ▸ HO6.out, HB6.out⟩
    · obtain rfl : k = l.length := by omega
      have hkl : ¬ (l.length : Int) < (l.length : Int) := by omega
      rw [List.take_length] at hown
      have HS1 := Lib.hid (sort_any (l.flatMap Pas.src) _ w.heap.size wo hown hb.size (by have := flat_len HSL.out; omega))
      have HB := Lib.hid hb
      clear hlt hk hown hb
      go_wp2_with (first
        | (go_at_call 13
           with_reducible refine HS1.out.mono ?_
           rintro e w5 ⟨rfl, ⟨s5, hp5, hs5, ho5⟩, hb5, hz5⟩
           have HP5 := Lib.hid (And.intro hp5 hs5)
           have HB5 := Lib.hid (HB.out.trans hb5)
           have HC5 := Lib.hid (compact_own s5 _ _ _ ho5 HB5.out.size)
           clear hp5 hs5 ho5 hb5 hz5)
        | (go_at_call 15
           with_reducible refine HC5.out.mono ?_
           rintro e w6 ⟨⟨v6, rfl, hs6⟩, hb6⟩
           have HS6 := Lib.hid hs6
           have HB6 := Lib.hid (HB5.out.trans hb6)
           clear hs6 hb6))
      go_ret
      exact ⟨⟨_, _, rfl, ⟨_, HP5.out.1, HP5.out.2, rfl⟩, HS6.out⟩, HB6.out⟩
end Go.Proofs.YtelnnjofccldgaaGreatDoor.Fu
