/-
  Layer 37 (post): the reference's Find, Posted.
-/
import Derived.Test.YtifcelebfagjbaaGreatDoorMgF
import Derived.Test.YtifcelebfagjbaaGreatDoorMgD
namespace Go.Proofs.YtifcelebfagjbaaGreatDoor
open Go.RowKit Go.Tw Go.Tw.Ord Go.Tw.Po Go.Sort
/-- books in a box, a charge of nothing behind -/
def FW (w : World) (a b : Value) (wr : World) : Prop := wr.heap[w.heap.size]? = some (.cells #[a, b] 70 (0, 0)) ∧ wr.heap[w.heap.size + 1]? = some (.cells #[.string ByteArray.empty, .string ByteArray.empty, .string ByteArray.empty, .int .i64 0, .int .i64 0, .slice none 0 0, .int .i64 0] 49 (0, 0)) ∧ Below w.heap.size w wr
theorem FW.start (w : World) (a b : Value) : FW w a b ((w.alloc (.cells #[a, b] 70)).alloc (.cells #[.string ByteArray.empty, .string ByteArray.empty, .string ByteArray.empty, .int .i64 0, .int .i64 0, .slice none 0 0, .int .i64 0] 49)) := ⟨heap_alloc2_old w _ _, heap_alloc2_new w _ _, bl_alloc (bl_alloc (Below.refl _ _) _) _⟩
set_option maxRecDepth 100000 in
set_option maxHeartbeats 1000000 in
theorem findR_any (l : List Chg) (al : Option Addr) (nl cl : Nat) (v : Value) (id : ByteArray) (w : World) (h : SlIs (tChg 140) (· < w.heap.size) w v l) :
    Calls Tryz.prog 48 #[.agg #[.slice al nl cl, v], .string id] w fun e w' => (∃ vx, SlIs tSI (· < w.heap.size) w vx ((fndC l id).getD zeroC).ls ∧ e = .returned (.tuple #[.agg #[.string ((fndC l id).getD zeroC).key, .string ((fndC l id).getD zeroC).veh, .string ((fndC l id).getD zeroC).sys, .int .i64 ((fndC l id).getD zeroC).cls, .int .i64 ((fndC l id).getD zeroC).tm, vx, .int .i64 ((fndC l id).getD zeroC).c], .bool (fndC l id).isSome])) ∧ Below w.heap.size w w' := by
  have HS := Lib.hid (FW.start w (.slice al nl cl) v)
  have HH := Lib.hid h
  obtain ⟨ao, cap, b, off, rfl, h1, h2, ho⟩ := chg_open h
  unfold maxLen at h2
  have HO := Lib.hid ho
  clear ho h
  go_enter Tryz.func48, Tryz.ntmps48
  go_wp2
  go_loopg [6] l.length (fun g i wr => ∃ k : Nat, k + g = l.length ∧ i = .int .i64 k ∧ Hid (∀ j (hj : j < l.length), j < k → l[j].key ≠ id) ∧ Hid (FW w (.slice al nl cl) (.slice ao l.length cap) wr))
  case atStart => exact ⟨0, by omega, rfl, Lib.hid (fun j _ h => by omega), HS⟩
  case round =>
    obtain ⟨k, hk, rfl, HT, HW1⟩ := hrel
    clear HS
    obtain ⟨c0, c1, -⟩ := blk2 HW1.out.1
    obtain ⟨z0, z1, z2, z3, z4, z5, z6, zf⟩ := blk7 HW1.out.2.1
    have l1 : w.heap.size + 1 < wr.heap.size := lt_of_heap HW1.out.2.1
    by_cases hlt : k < l.length
    · obtain ⟨rfl, -, hbi, -, hv, hsl, d0, d1, d2, d3, d4, d5, d6⟩ := HO.out wr (.of_below HW1.out.2.2) k hlt
      obtain ⟨-, -, -, -, hv', hsl', -, -, -, -, -, e5, -⟩ := HO.out w (SameOn.refl _ _) k hlt
      have HSL := Lib.hid hsl'
      have hvv : hv' = hv := by
        have := ((HW1.out.2.2).cell (p := ⟨b, off + k * 7 + 5, none⟩) hbi).symm.trans d5
        rw [e5] at this
        injection this
      rw [hvv] at HSL
      obtain ⟨hva, hvc, _, _, rfl, -⟩ := hsl
      have k0 : (0 : Int) ≤ (k : Int) := by omega
      have k1 : (k : Int) < (l.length : Int) := by omega
      have HFS := Lib.hid (fun (hq : l[k].key = id) => fndC_some hlt hq HT.out)
      have HG1 := Lib.hid (show ∀ j (hj : j < l.length), j = k → l[j] = l[k] by rintro j hj rfl; rfl)
      generalize l[k] = y at *
      clear e5 hvv hsl'
      obtain ⟨q, hq⟩ : ∃ q, (y.key.toList == id.toList) = q := ⟨_, rfl⟩
      have HQ := Lib.hid (show decide (y.key = id) = q by rw [← hq, eq_str])
      have l0 : w.heap.size < wr.heap.size := by omega
      have lb : b < w.heap.size + 1 := by omega
      cases q with
      | true =>
        have HE := Lib.hid (HFS.out (by simpa using HQ.out))
        go_wp2
        rw [HE.out]
        refine bodyPost_ret (v := .tuple #[.agg #[.string y.key, .string y.veh, .string y.sys, .int .i64 y.cls, .int .i64 y.tm, .slice hva y.ls.length hvc, .int .i64 y.c], .bool true]) (by simp [results, Tryz.results48, go_sem, z0, z1, z2, z3, z4, z5, z6]) rfl ⟨⟨_, HSL.out, rfl⟩, ?_⟩
        have hbw : Below w.heap.size w wr := HW1.out.2.2
        (repeat (first | (with_reducible exact hbw) | (with_reducible apply bl_drewN) | (with_reducible apply bl_alloc) | ((with_reducible refine bl_set ?_ _ ?_); rotate_left; focus (first | exact Nat.le_refl _ | (simp; done) | (simp; omega)))))
      | false =>
        go_wp2
        go_roundg (l.length - (k + 1))
        case measure => omega
        case rel => exact ⟨k + 1, by omega, by go_num, Lib.hid (fun j hj h => by
          by_cases e : j = k
          · rw [HG1.out j hj e]; simpa using HQ.out
          · exact HT.out j hj (by omega)), HW1⟩
    · have HE := Lib.hid (fndC_none (s := id) fun j hj => HT.out j hj (by omega))
      go_wp2
      rw [HE.out]
      refine bodyPost_ret (v := .tuple #[.agg #[.string ByteArray.empty, .string ByteArray.empty, .string ByteArray.empty, .int .i64 0, .int .i64 0, .slice none 0 0, .int .i64 0], .bool false]) (by simp [results, Tryz.results48, go_sem, z0, z1, z2, z3, z4, z5, z6]; rfl) rfl ⟨⟨.slice none 0 0, SlIs.nil, rfl⟩, ?_⟩
      have hbw : Below w.heap.size w wr := HW1.out.2.2
      (repeat (first | (with_reducible exact hbw) | (with_reducible apply bl_drewN) | (with_reducible apply bl_alloc) | ((with_reducible refine bl_set ?_ _ ?_); rotate_left; focus (first | exact Nat.le_refl _ | (simp; done) | (simp; omega)))))
set_option maxHeartbeats 1000000 in
theorem postedR_any (l : List Chg) (al : Option Addr) (nl cl : Nat) (v : Value) (id : ByteArray) (w : World) (h : SlIs (tChg 140) (· < w.heap.size) w v l) :
    Calls Tryz.prog 20 #[.agg #[.slice al nl cl, v], .string id] w fun e w' => e = .returned (.int .i64 (postedC l id)) ∧ Below w.heap.size w w' := by
  have b1 := bl_alloc (Below.refl w.heap.size w) (.cells #[.slice al nl cl, v] 70)
  have HF := Lib.hid (findR_any l al nl cl v id _ (h.step b1))
  have HB1 := Lib.hid b1
  have HE := Lib.hid (show postedC l id = ((fndC l id).getD zeroC).c from rfl)
  obtain ⟨ao, cap, b, off, rfl, h1, h2, -⟩ := chg_open h
  clear b1 h
  generalize (fndC l id).isSome = q at *
  generalize (fndC l id).getD zeroC = x at *
  go_enter Tryz.func20, Tryz.ntmps20
  go_wp2_with (fail)
  refine HF.out.mono ?_
  rintro e w2 ⟨⟨vx, hsl, rfl⟩, hb⟩
  obtain ⟨va, vc, _, _, rfl, -⟩ := hsl
  have HB2 := Lib.hid (bl_trans HB1.out hb)
  clear hb HB1 HF
  go_wp2
  go_ret
  exact ⟨ret_int HE.out, bl_alloc HB2.out _⟩
end Go.Proofs.YtifcelebfagjbaaGreatDoor
/-
  Layer 37 (post): version; the keys of entries.
-/
namespace Go.Tw.Po
open Go.RowKit Go.Tw
/-- the keys of a charge's entries: the key, '#', then something without '#' -/
def isVer (k s : ByteArray) : Bool := Lib.hasPrefix (kb k) (kb s ++ [35]) && !((kb k).drop ((kb s).length + 1)).isEmpty && !(((kb k).drop ((kb s).length + 1)).contains 35)
def verN (l : List Ent) (s : ByteArray) : Nat := (l.filter fun e => isVer e.key s).length
theorem ver_take {l : List Ent} {s : ByteArray} {k : Nat} (h : k < l.length) : verN (l.take (k + 1)) s = verN (l.take k) s + (if isVer l[k].key s = true then 1 else 0) := by
  unfold verN
  rw [List.take_succ_eq_append_getElem h, List.filter_append, List.length_append]
  by_cases q : isVer l[k].key s = true
  · simp [q]
  · simp [q]
theorem ver_le {l : List Ent} {s : ByteArray} : verN l s ≤ l.length := List.length_filter_le _ _
end Go.Tw.Po
/-
  Layer 37 (post), from below: span.Valid, span.Has at one interval.
-/
namespace Go.Tw.Po
open Go.RowKit Go.Tw
def validI (a b : Int) : Bool := decide (0 ≤ a) && decide (a < b) && decide (b ≤ 68719476736)
def hasI (a b t : Int) : Bool := validI a b && decide (a ≤ t) && decide (t < b)
end Go.Tw.Po
namespace Go.Proofs.YtifcelebfagjbaaGreatDoor
open Go.RowKit Go.Tw Go.Tw.Ord Go.Tw.Po Go.Sort
theorem valid_any (a b : Int) (w : World) : Calls Tryz.prog 165 #[.agg #[.int .i64 a, .int .i64 b]] w fun e w' => e = .returned (.bool (validI a b)) ∧ Below w.heap.size w w' := by
  have HB := Lib.hid (bl_alloc (Below.refl w.heap.size w) (.cells #[.int .i64 a, .int .i64 b] 136))
  by_cases h1 : 0 ≤ a
  case neg =>
    have HE := Lib.hid (show validI a b = false by unfold validI; rw [decide_eq_false h1]; rfl)
    have k1 : decide (0 ≤ a) = false := decide_eq_false h1
    clear h1
    go_enter Tryz.func165, Tryz.ntmps165
    go_wp2
    go_ret
    exact ⟨ret_bool HE.out, HB.out⟩
  by_cases h2 : a < b
  case neg =>
    have HE := Lib.hid (show validI a b = false by unfold validI; rw [decide_eq_false h2]; simp)
    have k2 : decide (a < b) = false := decide_eq_false h2
    clear h2
    go_enter Tryz.func165, Tryz.ntmps165
    go_wp2
    go_ret
    exact ⟨ret_bool HE.out, HB.out⟩
  have HE := Lib.hid (show validI a b = decide (b ≤ 68719476736) by unfold validI; rw [decide_eq_true h1, decide_eq_true h2]; rfl)
  obtain ⟨q, hq⟩ : ∃ q, decide (b ≤ 68719476736) = q := ⟨_, rfl⟩
  rw [hq] at HE
  cases q
  all_goals
    go_enter Tryz.func165, Tryz.ntmps165
    go_wp2
    go_ret
    exact ⟨ret_bool HE.out, HB.out⟩
set_option maxRecDepth 100000 in
theorem has1_any (a b t : Int) (g : Nat) (w : World) (hg : w.cell? ⟨g, 0, none⟩ = some (.int .i64 t)) :
    Calls Tryz.prog 164 #[.agg #[.int .i64 a, .int .i64 b], .pointer (some ⟨g, 0, none⟩)] w fun e w' => e = .returned (.bool (hasI a b t)) ∧ Below w.heap.size w w' := by
  have hgl := lt_of_cell hg
  simp only at hgl
  have b1 := bl_alloc (Below.refl w.heap.size w) (.cells #[.int .i64 a, .int .i64 b] 136)
  have HB := Lib.hid b1
  have HV := Lib.hid (valid_any a b (w.alloc (.cells #[.int .i64 a, .int .i64 b] 136)))
  obtain ⟨v, hv⟩ : ∃ v, validI a b = v := ⟨_, rfl⟩
  have HH := Lib.hid (show hasI a b t = (v && decide (a ≤ t) && decide (t < b)) by unfold hasI; rw [hv])
  rw [hv] at HV
  have HG := Lib.hid hg
  clear b1 hv hg
  cases v with
  | false =>
    have HE := Lib.hid (show hasI a b t = false by rw [HH.out]; rfl)
    go_enter Tryz.func164, Tryz.ntmps164
    go_wp2_with (fail)
    with_reducible refine HV.out.mono ?_
    rintro e w2 ⟨rfl, hb⟩
    have n1 := (hb.block w.heap.size (by simp)).trans (heap_alloc_new _ _)
    obtain ⟨c0, c1, -⟩ := blk2 n1
    have HB2 := Lib.hid (bl_trans HB.out hb)
    have d0 : w2.cell? ⟨g, 0, none⟩ = some (.int .i64 t) := (Below.cell HB2.out (p := ⟨g, 0, none⟩) hgl).trans HG.out
    clear n1 hb HV HG
    go_wp2
    go_ret
    exact ⟨ret_bool HE.out, HB2.out⟩
  | true =>
    by_cases h2 : a ≤ t
    case neg =>
      have HE := Lib.hid (show hasI a b t = false by rw [HH.out, decide_eq_false h2]; rfl)
      have k2 : decide (a ≤ t) = false := decide_eq_false h2
      clear h2
      go_enter Tryz.func164, Tryz.ntmps164
      go_wp2_with (fail)
      with_reducible refine HV.out.mono ?_
      rintro e w2 ⟨rfl, hb⟩
      have n1 := (hb.block w.heap.size (by simp)).trans (heap_alloc_new _ _)
      obtain ⟨c0, c1, -⟩ := blk2 n1
      have HB2 := Lib.hid (bl_trans HB.out hb)
      have d0 : w2.cell? ⟨g, 0, none⟩ = some (.int .i64 t) := (Below.cell HB2.out (p := ⟨g, 0, none⟩) hgl).trans HG.out
      clear n1 hb HV HG
      go_wp2
      go_ret
      exact ⟨ret_bool HE.out, HB2.out⟩
    by_cases h3 : t < b
    case neg =>
      have HE := Lib.hid (show hasI a b t = false by rw [HH.out, decide_eq_false h3]; simp)
      have k3 : decide (t < b) = false := decide_eq_false h3
      clear h3
      go_enter Tryz.func164, Tryz.ntmps164
      go_wp2_with (fail)
      with_reducible refine HV.out.mono ?_
      rintro e w2 ⟨rfl, hb⟩
      have n1 := (hb.block w.heap.size (by simp)).trans (heap_alloc_new _ _)
      obtain ⟨c0, c1, -⟩ := blk2 n1
      have HB2 := Lib.hid (bl_trans HB.out hb)
      have d0 : w2.cell? ⟨g, 0, none⟩ = some (.int .i64 t) := (Below.cell HB2.out (p := ⟨g, 0, none⟩) hgl).trans HG.out
      clear n1 hb HV HG
      go_wp2
      go_ret
      exact ⟨ret_bool HE.out, HB2.out⟩
    have HE := Lib.hid (show hasI a b t = true by rw [HH.out, decide_eq_true h2, decide_eq_true h3]; rfl)
    go_enter Tryz.func164, Tryz.ntmps164
    go_wp2_with (fail)
    with_reducible refine HV.out.mono ?_
    rintro e w2 ⟨rfl, hb⟩
    have n1 := (hb.block w.heap.size (by simp)).trans (heap_alloc_new _ _)
    obtain ⟨c0, c1, -⟩ := blk2 n1
    have HB2 := Lib.hid (bl_trans HB.out hb)
    have d0 : w2.cell? ⟨g, 0, none⟩ = some (.int .i64 t) := (Below.cell HB2.out (p := ⟨g, 0, none⟩) hgl).trans HG.out
    clear n1 hb HV HG
    go_wp2
    go_ret
    exact ⟨ret_bool HE.out, HB2.out⟩
/-- one interval in a block -/
theorem index1_any (a b t : Int) (g r : Nat) (w : World) (hg : w.cell? ⟨g, 0, none⟩ = some (.int .i64 t)) (hr : w.heap[r]? = some (.cells #[.int .i64 a, .int .i64 b] 136 (0, 0))) :
    Calls Tryz.prog 173 #[.slice (some ⟨r, 0, none⟩) 1 1, .func (.func 164) #[] #[.pointer (some ⟨g, 0, none⟩)]] w
      fun e w' => e = .returned (.int .i64 (if hasI a b t = true then 0 else -1)) ∧ Below w.heap.size w w' := by
  have HI := Lib.hid (has1_any a b t g w hg)
  obtain ⟨c0, c1, -⟩ := blk2 hr
  obtain ⟨q, hq⟩ : ∃ q, hasI a b t = q := ⟨_, rfl⟩
  rw [hq] at HI ⊢
  clear hg hr hq
  go_enter Tryz.func173, Tryz.ntmps173
  go_wp2
  go_loopg [8] 1 (fun gx i wr => (i = .int .i64 0 ∧ gx = 1 ∧ wr = w) ∨ (i = .int .i64 1 ∧ q = false ∧ Below w.heap.size w wr))
  case atStart => exact .inl ⟨rfl, rfl, rfl⟩
  case round =>
    rcases hrel with ⟨rfl, rfl, hw⟩ | ⟨rfl, rfl, hb⟩
    · rw [hw]
      clear hw
      cases q
      · go_wp2_with (go_at_call 164; with_reducible refine HI.out.mono ?_; rintro e w2 ⟨rfl, hb⟩)
        go_roundg 0
        case measure => omega
        case rel => exact .inr ⟨by go_num, by simp, by assumption⟩
      · go_wp2_with (go_at_call 164; with_reducible refine HI.out.mono ?_; rintro e w2 ⟨rfl, hb⟩)
        go_ret
        exact ⟨rfl, hb⟩
    · go_wp2
      go_ret
      exact ⟨rfl, hb⟩
end Go.Proofs.YtifcelebfagjbaaGreatDoor
/-
  Layer 37 (post), from below: accounts: owned, Owner.
-/
namespace Go.Tw.Po
open Go.RowKit Go.Tw Go.Sort Go.Tw.Ord
structure Ow where
  tag : ByteArray
  plt : ByteArray
  fr : Int
  to : Int
def tOw : Ty Ow := (tStr.pair (tStr.pair (tInt.pair tInt))).via fun r => (r.tag, r.plt, r.fr, r.to)
structure OwOk (r : Ow) : Prop where
  tag : r.tag.size ≤ maxLen
  plt : r.plt.size ≤ maxLen
  fr : i64ok r.fr
  to : i64ok r.to
theorem tOw_is {S : Nat → Prop} {w : World} {cs : List Value} {r : Ow} (h : tOw.is S w cs r) : cs = [.string r.tag, .string r.plt, .int .i64 r.fr, .int .i64 r.to] ∧ OwOk r := by
  obtain ⟨_, _, rfl, ⟨rfl, h1⟩, _, _, rfl, ⟨rfl, h2⟩, _, _, rfl, ⟨rfl, h3⟩, ⟨rfl, h4⟩⟩ := h
  exact ⟨rfl, h1, h2, h3, h4⟩
structure Acc where
  nm : ByteArray
  ag : ByteArray
  pre : Bool
  ow : List Ow
  r1 : Int
  r2 : Int
  r3 : Int
  r4 : Int
  ex : Bool
def tAcc (e : TypeId) : Ty Acc := (tStr.pair (tStr.pair (tBool.pair ((tOw.list e).pair (tInt.pair (tInt.pair (tInt.pair (tInt.pair tBool)))))))).via fun r => (r.nm, r.ag, r.pre, r.ow, r.r1, r.r2, r.r3, r.r4, r.ex)
theorem tAcc_is {e : TypeId} {S : Nat → Prop} {w : World} {cs : List Value} {r : Acc} (h : (tAcc e).is S w cs r) : ∃ v, cs = [.string r.nm, .string r.ag, .bool r.pre, v, .int .i64 r.r1, .int .i64 r.r2, .int .i64 r.r3, .int .i64 r.r4, .bool r.ex] ∧ r.nm.size ≤ maxLen ∧ SlIs tOw S w v r.ow := by
  obtain ⟨_, _, rfl, ⟨rfl, h1⟩, _, _, rfl, ⟨rfl, h2⟩, _, _, rfl, rfl, _, _, rfl, ⟨v, rfl, h4⟩, _, _, rfl, ⟨rfl, h5⟩, _, _, rfl, ⟨rfl, h6⟩, _, _, rfl, ⟨rfl, h7⟩, _, _, rfl, ⟨rfl, h8⟩, rfl⟩ := h
  exact ⟨v, rfl, h1, h4⟩
theorem ow_open {S : Nat → Prop} {w : World} {v : Value} {l : List Ow} (h : SlIs tOw S w v l) :
    ∃ ao cap b off, v = .slice ao l.length cap ∧ l.length ≤ cap ∧ cap ≤ maxLen ∧ ∀ w', SameOn S w w' → ∀ k (_ : k < l.length), ao = some ⟨b, off, none⟩ ∧ S b ∧ b < w.heap.size ∧ OwOk l[k] ∧
      w'.cell? ⟨b, off + k * 4, none⟩ = some (.string l[k].tag) ∧ w'.cell? ⟨b, off + k * 4 + 1, none⟩ = some (.string l[k].plt) ∧ w'.cell? ⟨b, off + k * 4 + 2, none⟩ = some (.int .i64 l[k].fr) ∧ w'.cell? ⟨b, off + k * 4 + 3, none⟩ = some (.int .i64 l[k].to) := by
  obtain ⟨ao, cap, b, off, hv, h1, h2, h3⟩ := h.openS
  refine ⟨ao, cap, b, off, hv, h1, h2, fun w' hw k hk => ?_⟩
  obtain ⟨g1, g2, g2', cs, g3, g4⟩ := h3 w' hw k hk
  obtain ⟨rfl, g5⟩ := tOw_is g4
  have := cells4 (f := fun j => w'.cell? ⟨b, off + k * 4 + j, none⟩) g3
  exact ⟨g1, g2, g2', g5, this⟩
/-- does this assignment hold the vehicle at the time? -/
def owB (vh : ByteArray) (t : Int) (o : Ow) : Bool := !decide (vh.size = 0) && (decide (o.tag = vh) || decide (o.plt = vh)) && hasI o.fr o.to t
def ownI (l : List Ow) (vh : ByteArray) (t : Int) : Int := match l.findIdx? (owB vh t) with
  | some i => (i : Int)
  | none => -1
/-- the owner's name -/
def ownerO (l : List Acc) (vh : ByteArray) (t : Int) : Option ByteArray := (l.find? fun a => a.ow.any (owB vh t)).map Acc.nm
theorem ownI_some {l : List Ow} {vh : ByteArray} {t : Int} {k : Nat} (hk : k < l.length) (h : owB vh t l[k] = true) (hb : ∀ j (hj : j < l.length), j < k → owB vh t l[j] = false) : ownI l vh t = k := by
  have : l.findIdx? (owB vh t) = some k := by
    rw [List.findIdx?_eq_some_iff_getElem]
    exact ⟨hk, h, fun j hj => by rw [hb j (by omega) hj]; simp⟩
  unfold ownI
  rw [this]
theorem ownI_none {l : List Ow} {vh : ByteArray} {t : Int} (h : ∀ j (hj : j < l.length), owB vh t l[j] = false) : ownI l vh t = -1 := by
  have : l.findIdx? (owB vh t) = none := by
    rw [List.findIdx?_eq_none_iff]
    intro x hx
    obtain ⟨j, hj, rfl⟩ := List.getElem_of_mem hx
    exact h j hj
  unfold ownI
  rw [this]
theorem ownI_any (l : List Ow) (vh : ByteArray) (t : Int) : (l.any (owB vh t) = true ∧ 0 ≤ ownI l vh t) ∨ (l.any (owB vh t) = false ∧ ownI l vh t = -1) := by
  cases e : l.findIdx? (owB vh t) with
  | some i =>
    obtain ⟨hi, h1, -⟩ := List.findIdx?_eq_some_iff_getElem.1 e
    refine .inl ⟨List.any_eq_true.2 ⟨_, List.getElem_mem hi, h1⟩, ?_⟩
    unfold ownI
    rw [e]
    exact Int.natCast_nonneg _
  | none =>
    rw [List.findIdx?_eq_none_iff] at e
    refine .inr ⟨List.any_eq_false.2 fun x hx => by rw [e x hx]; simp, ?_⟩
    unfold ownI
    rw [List.findIdx?_eq_none_iff.2 e]
end Go.Tw.Po
namespace Go.Proofs.YtifcelebfagjbaaGreatDoor
open Go.RowKit Go.Tw Go.Tw.Ord Go.Tw.Po Go.Sort
theorem contI_any (a b t : Int) (g r : Nat) (w : World) (hg : w.cell? ⟨g, 0, none⟩ = some (.int .i64 t)) (hr : w.heap[r]? = some (.cells #[.int .i64 a, .int .i64 b] 136 (0, 0))) :
    Calls Tryz.prog 163 #[.slice (some ⟨r, 0, none⟩) 1 1, .func (.func 164) #[] #[.pointer (some ⟨g, 0, none⟩)]] w
      fun e w' => e = .returned (.bool (hasI a b t)) ∧ Below w.heap.size w w' := by
  have HI := Lib.hid (index1_any a b t g r w hg hr)
  clear hg hr
  obtain ⟨q, hq⟩ : ∃ q, hasI a b t = q := ⟨_, rfl⟩
  rw [hq] at HI ⊢
  clear hq
  go_enter Tryz.func163, Tryz.ntmps163
  go_wp2_with (fail)
  with_reducible refine HI.out.mono ?_
  rintro e w2 ⟨rfl, hb⟩
  have HB := Lib.hid hb
  clear hb HI
  cases q
  all_goals
    simp only [Bool.false_eq_true, if_false, if_true]
    go_wp2
    go_ret
    exact ⟨rfl, HB.out⟩
theorem has_any (a b t : Int) (r : Nat) (w : World) (hr : w.heap[r]? = some (.cells #[.int .i64 a, .int .i64 b] 136 (0, 0))) :
    Calls Tryz.prog 152 #[.slice (some ⟨r, 0, none⟩) 1 1, .int .i64 t] w fun e w' => e = .returned (.bool (hasI a b t)) ∧ Below w.heap.size w w' := by
  have b1 := bl_alloc (Below.refl w.heap.size w) (.cells #[.int .i64 t] 3)
  have HI := Lib.hid (contI_any a b t w.heap.size r (w.alloc (.cells #[.int .i64 t] 3)) (by simp) ((b1.block _ (lt_of_heap hr)).trans hr))
  have HB1 := Lib.hid b1
  clear hr b1
  go_enter Tryz.func152, Tryz.ntmps152
  go_wp2_with (fail)
  with_reducible refine HI.out.mono ?_
  rintro e w2 ⟨rfl, hb⟩
  have HB := Lib.hid (bl_trans HB1.out hb)
  clear hb HI HB1
  go_wp2
  go_ret
  exact ⟨rfl, HB.out⟩
end Go.Proofs.YtifcelebfagjbaaGreatDoor
