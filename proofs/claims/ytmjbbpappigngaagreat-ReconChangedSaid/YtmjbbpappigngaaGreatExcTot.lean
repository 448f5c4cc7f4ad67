/-
  Layer 42 (agency): the walks of Sum, Total, Check; of the reference's.
-/
import Derived.Test.YtmjbbpappigngaaGreatExcRight
namespace Go.Tw.Exc
open Go.RowKit Go.Tw
theorem amts_len : ∀ l : List Rec, (amts l).length ≤ l.length := fun l => by unfold amts; rw [List.length_map]; exact List.length_filter_le _ _
theorem amts_take {l : List Rec} {k : Nat} (h : k < l.length) : amts (l.take (k + 1)) = if isAmt l[k] then amts (l.take k) ++ [l[k].c] else amts (l.take k) := by
  rw [List.take_succ_eq_append_getElem h, amts_snoc]
theorem amts_mem {l : List Rec} {x : Int} (h : x ∈ amts l) : ∃ r ∈ l, isAmt r = true ∧ r.c = x := by
  unfold amts at h
  obtain ⟨r, hr, rfl⟩ := List.mem_map.1 h
  obtain ⟨h1, h2⟩ := List.mem_filter.1 hr
  exact ⟨r, h1, h2, rfl⟩
theorem sumZ_take {l : List Int} {k : Nat} (h : k < l.length) : sumZ (l.take (k + 1)) = sumZ (l.take k) + l[k] := by rw [List.take_succ_eq_append_getElem h, sumZ_snoc]
def Fit (l : List Rec) : Prop := ∀ r ∈ l, isAmt r = true → -1125899906842624 ≤ r.c ∧ r.c ≤ 1125899906842624
def okSum (n : Int) : Int := if fits n = true then n else 0
def errSum (n : Int) : Int := if fits n = true then 0 else 13
theorem okSum_b {n : Int} {b : Bool} (h : fits n = b) : okSum n = (if b = true then n else 0) ∧ errSum n = (if b = true then 0 else 13) := by unfold okSum errSum; rw [h]; exact ⟨rfl, rfl⟩
end Go.Tw.Exc
namespace Go.Proofs.YtmjbbpappigngaaGreat
open Go.RowKit Go.Tw Go.Tw.Exc
theorem slInt : SlT Tryz.prog 103 3 1 8 := SlT.of (z := .int .i64 0) Tryz.underlying103 (by kernel_rfl) rfl (by decide)
set_option maxHeartbeats 1000000 in
theorem mtotal_any (l : List Int) (v : Value) (w : World) (h : SlIs tInt (· < w.heap.size) w v l) (hl : l.length ≤ 1024) (hf : ∀ x ∈ l, -1125899906842624 ≤ x ∧ x ≤ 1125899906842624) :
    Calls Tryz.prog 98 #[v] w fun e w' => e = .returned (.int .i64 (sumZ l)) ∧ w = w' := by
  obtain ⟨ao, cap, b, off, rfl, h1, h2, ho⟩ := ints_open h
  unfold maxLen at h2
  have HF := Lib.hid hf
  clear h hf
  go_enter Tryz.func98, Tryz.ntmps98
  go_wp2
  go_loopg [8, 3] l.length (fun g i s wr => ∃ (k : Nat) (n : Int), k + g = l.length ∧ i = .int .i64 k ∧ s = .int .i64 n ∧ Hid (n = sumZ (l.take k)) ∧ -(k : Int) * 1125899906842624 ≤ n ∧ n ≤ (k : Int) * 1125899906842624 ∧ w = wr)
  case atStart => exact ⟨0, 0, by omega, rfl, rfl, Lib.hid rfl, by omega, by omega, rfl⟩
  case round =>
    obtain ⟨k, n, hk, rfl, rfl, HN, hn1, hn2, rfl⟩ := hrel
    by_cases hlt : k < l.length
    · obtain ⟨rfl, -, c0, -⟩ := ho w (Below.refl _ _) k hlt
      have hx := HF.out l[k] (List.getElem_mem hlt)
      have HS := Lib.hid (sumZ_take hlt)
      obtain ⟨x, hxx⟩ : ∃ x, l[k] = x := ⟨_, rfl⟩
      rw [hxx] at c0 hx HS
      have k0 : (0 : Int) ≤ (k : Int) := by omega
      have k1 : (k : Int) < (l.length : Int) := by omega
      clear hxx ho
      go_wp2
      go_roundg (l.length - (k + 1))
      case measure => omega
      case rel => exact ⟨k + 1, n + x, by omega, by go_num, by go_num, Lib.hid (by rw [HS.out, HN.out]), by omega, by omega, rfl⟩
    · have hkd : decide ((k : Int) < (l.length : Int)) = false := by simp; omega
      obtain rfl : k = l.length := by omega
      have HN2 := Lib.hid (show n = sumZ l by have := HN.out; rwa [List.take_length] at this)
      clear ho
      go_wp2
      go_ret
      exact ⟨ret_int HN2.out.symm, rfl⟩
set_option maxHeartbeats 1000000 in
theorem Sum_any (l : List Int) (v : Value) (w : World) (h : SlIs tInt (· < w.heap.size) w v l) (hl : l.length ≤ 1024) (hf : ∀ x ∈ l, -1125899906842624 ≤ x ∧ x ≤ 1125899906842624) :
    Calls Tryz.prog 84 #[v] w fun e w' => e = .returned (.tuple #[.int .i64 (okSum (sumZ l)), .int .i64 (errSum (sumZ l))]) ∧ w = w' := by
  have HT := Lib.hid (mtotal_any l v w h hl hf)
  obtain ⟨ao, cap, b, off, rfl, h1, h2, ho⟩ := ints_open h
  unfold maxLen at h2
  have HF := Lib.hid hf
  obtain ⟨s, hs⟩ : ∃ s, sumZ l = s := ⟨_, rfl⟩
  rw [hs] at HT ⊢
  clear h hf hs
  go_enter Tryz.func84, Tryz.ntmps84
  go_wp2
  go_loopg [12] l.length (fun g i wr => ∃ (k : Nat), k + g = l.length ∧ i = .int .i64 k ∧ w = wr)
  case atStart => exact ⟨0, by omega, rfl, rfl⟩
  case round =>
    obtain ⟨k, hk, rfl, rfl⟩ := hrel
    by_cases hlt : k < l.length
    · obtain ⟨rfl, -, c0, -⟩ := ho w (Below.refl _ _) k hlt
      have hx := HF.out l[k] (List.getElem_mem hlt)
      obtain ⟨x, hxx⟩ : ∃ x, l[k] = x := ⟨_, rfl⟩
      rw [hxx] at c0 hx
      have hfx := fits_yes hx.1 hx.2
      have HX := Lib.hid (show Calls Tryz.prog 42 #[.int .i64 x] w fun e w' => e = .returned (.bool true) ∧ w = w' by rw [← hfx]; exact fits_any x w)
      have k0 : (0 : Int) ≤ (k : Int) := by omega
      have k1 : (k : Int) < (l.length : Int) := by omega
      clear hxx hx hfx ho
      go_wp2_with (go_at_call 42; refine HX.out.mono ?_; rintro e w1 ⟨rfl, rfl⟩)
      go_roundg (l.length - (k + 1))
      case measure => omega
      case rel => exact ⟨k + 1, by omega, by go_num, rfl⟩
    · obtain rfl : k = l.length := by omega
      have hkd : decide ((l.length : Int) < (l.length : Int)) = false := by simp
      clear ho
      cases hfs : fits s
      all_goals
        have HS := Lib.hid (show Calls Tryz.prog 42 #[.int .i64 s] w fun e w' => e = .returned (.bool _) ∧ w = w' by have := fits_any s w; rw [hfs] at this; exact this)
        have HO := Lib.hid (okSum_b hfs).1
        have HE := Lib.hid (okSum_b hfs).2
        clear hfs
        go_wp2_with (first
          | (go_at_call 98; refine HT.out.mono ?_; rintro e w1 ⟨rfl, rfl⟩)
          | (go_at_call 42; refine HS.out.mono ?_; rintro e w1 ⟨rfl, rfl⟩))
        go_ret2
        exact ⟨by rw [HO.out, HE.out]; rfl, rfl⟩
set_option maxRecDepth 100000 in
set_option maxHeartbeats 2000000 in
theorem Total_any (f : Fil) (v : Value) (w : World) (h : SlIs tRec (· < w.heap.size) w v f.rs) (hl : f.rs.length ≤ 1024) (hf : Fit f.rs) :
    Calls Tryz.prog 72 #[.agg #[.string f.fr, .string f.to, .int .i64 f.sq, v]] w fun e w' => e = .returned (.tuple #[.int .i64 (okSum (sumZ (amts f.rs))), .int .i64 (errSum (sumZ (amts f.rs)))]) ∧ Below w.heap.size w w' := by
  obtain ⟨ao, cap, b, off, rfl, h1, h2, ho⟩ := rec_open h
  unfold maxLen at h2
  have HF := Lib.hid hf
  have HB := Lib.hid (FilW.start w f (.slice ao f.rs.length cap))
  clear h hf
  go_enter Tryz.func72, Tryz.ntmps72
  go_wp2
  go_loopg [10, 4] f.rs.length (fun g i v wr => ∃ (k : Nat) (v0 : Value), v0 = v ∧ k + g = f.rs.length ∧ i = .int .i64 k ∧ OwnSl tInt 3 w.heap.size wr v0 (amts (f.rs.take k)) ∧ Below w.heap.size w wr)
  case atStart => exact ⟨0, _, rfl, by omega, rfl, OwnSl.nil _ _ _ _, HB.out.2⟩
  case round =>
    obtain ⟨k, v0, rfl, hk, rfl, hown, hb1⟩ := hrel
    have HO := Lib.hid hown
    have HB1 := Lib.hid hb1
    have hsz := hb1.size
    clear hown
    by_cases hlt : k < f.rs.length
    · obtain ⟨rfl, -, hb, hok, c0, c1, c2, c3, c4⟩ := ho wr (.of_below hb1) k hlt
      have HA := Lib.hid (amts_take hlt)
      have hll := amts_len (f.rs.take k)
      rw [List.length_take] at hll
      have hll' : (amts (f.rs.take k)).length ≤ 1024 := by omega
      obtain ⟨L, hL⟩ : ∃ L, amts (f.rs.take k) = L := ⟨_, rfl⟩
      rw [hL] at HO HA hll'
      obtain ⟨r, hr⟩ : ∃ r, f.rs[k] = r := ⟨_, rfl⟩
      rw [hr] at hok c0 c1 c2 c3 c4 HA
      have HC := Lib.hid hok.c
      have k0 : (0 : Int) ≤ (k : Int) := by omega
      have k1 : (k : Int) < (f.rs.length : Int) := by omega
      have hko := hok.k
      unfold i64ok at hko
      clear hr hL ho hb1 hll hok
      have hcase : (isAmt r = true ∧ ((r.k == 1) = true ∨ ((r.k == 1) = false ∧ (r.k == 2) = true))) ∨ (isAmt r = false ∧ (r.k == 1) = false ∧ (r.k == 2) = false) := by
        unfold isAmt
        cases (r.k == 1) <;> cases (r.k == 2) <;> simp
      rcases hcase with ⟨q, q1 | ⟨q1, q2⟩⟩ | ⟨q, q1, q2⟩
      · have HT := Lib.hid (HA.out.trans (if_pos q))
        clear q
        go_wp2_with (
          at_builtin
          refine wpList_append_one (.tmp 22) (.tmp 25) rfl 103 rfl slInt rfl (HO.out.alloc _) (show Value.slice (some ⟨wr.heap.size + 1, 0, none⟩) 1 1 = Value.slice (some ⟨(wr.alloc _).heap.size, 0, none⟩) 1 1 by rw [World.size_alloc]) (S := fun _ => False) (y := r.c) ⟨rfl, HC.out⟩ (fun _ h => h.elim) (by omega) (by unfold maxLen; omega) (by simp; omega) ?_
          intro v3 w3 ho3 hg3 hb3
          have HO3 := Lib.hid ho3
          have HB3 := Lib.hid ((bl_alloc HB1.out _).trans hb3)
          clear ho3 hg3 hb3)
        go_roundg (f.rs.length - (k + 1))
        case measure => omega
        case rel => exact ⟨k + 1, _, rfl, by omega, by go_num, by rw [HT.out]; exact HO3.out, HB3.out⟩
      · have HT := Lib.hid (HA.out.trans (if_pos q))
        clear q
        go_wp2_with (
          at_builtin
          refine wpList_append_one (.tmp 22) (.tmp 25) rfl 103 rfl slInt rfl (HO.out.alloc _) (show Value.slice (some ⟨wr.heap.size + 1, 0, none⟩) 1 1 = Value.slice (some ⟨(wr.alloc _).heap.size, 0, none⟩) 1 1 by rw [World.size_alloc]) (S := fun _ => False) (y := r.c) ⟨rfl, HC.out⟩ (fun _ h => h.elim) (by omega) (by unfold maxLen; omega) (by simp; omega) ?_
          intro v3 w3 ho3 hg3 hb3
          have HO3 := Lib.hid ho3
          have HB3 := Lib.hid ((bl_alloc HB1.out _).trans hb3)
          clear ho3 hg3 hb3)
        go_roundg (f.rs.length - (k + 1))
        case measure => omega
        case rel => exact ⟨k + 1, _, rfl, by omega, by go_num, by rw [HT.out]; exact HO3.out, HB3.out⟩
      · have HT := Lib.hid (HA.out.trans (if_neg (by simp [q])))
        clear q
        go_wp2
        go_roundg (f.rs.length - (k + 1))
        case measure => omega
        case rel => exact ⟨k + 1, _, rfl, by omega, by go_num, by rw [HT.out]; exact HO.out.alloc _, bl_alloc HB1.out _⟩
    · obtain rfl : k = f.rs.length := by omega
      have hkd : decide ((f.rs.length : Int) < (f.rs.length : Int)) = false := by simp
      have hS := Sum_any (amts f.rs) v0 wr (by have := HO.out; rw [List.take_length] at this; exact this.sl) (Nat.le_trans (amts_len _) hl) (fun x hx => by
        obtain ⟨r, hr, ha, rfl⟩ := amts_mem hx
        exact HF.out r hr ha)
      have HS := Lib.hid hS
      clear ho hS
      go_wp2_with (fail)
      refine HS.out.mono ?_
      rintro e w1 ⟨rfl, rfl⟩
      go_wp2_with (fail)
      go_ret2
      exact ⟨rfl, HB1.out⟩
end Go.Proofs.YtmjbbpappigngaaGreat
