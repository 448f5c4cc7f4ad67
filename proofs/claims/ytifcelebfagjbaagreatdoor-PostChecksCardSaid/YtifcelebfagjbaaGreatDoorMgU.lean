/-
  Layer 37 (post): the reference's Version.
-/
import Derived.Test.YtifcelebfagjbaaGreatDoorMgR
import Derived.Test.YtifcelebfagjbaaGreatDoorMgT
import Derived.Laws.Strings2
import Derived.Lib.QuietBelow
import Derived.Deep.DeepCutAuto
import Derived.Test.YtifcelebfagjbaaGreatDoorMgN
import Derived.Test.YtifcelebfagjbaaGreatDoorMgG
namespace Go.Tw.Po
open Go.RowKit Go.Tw
theorem kb_len (s : ByteArray) : (kb s).length = s.size := by show s.data.toList.length = s.data.size; simp
theorem kb_get (s : ByteArray) (i : Nat) (h : i < s.size) : (kb s)[i]? = some s[i] := by
  show s.data.toList[i]? = some (s.data[i]'h)
  simp [h]
theorem ver_short {k s : ByteArray} (h : k.size ≤ s.size + 1) : isVer k s = false := by
  unfold isVer
  rw [List.drop_eq_nil_of_le (by rw [kb_len, kb_len]; exact h)]
  simp
theorem kb_ext (k : ByteArray) (n : Nat) : kb (k.extract 0 n) = (kb k).take n := by unfold kb; simp [ByteArray.data_extract]
theorem ver_pre {k s : ByteArray} (h : s.size + 1 < k.size) : isVer k s = (decide (k.extract 0 s.size = s) && decide ((k[s.size]'(by omega)).toNat = 35) && !((kb k).drop (s.size + 1)).contains 35) := by
  unfold isVer
  rw [pre_iff, kb_len, kb_get k s.size (by omega)]
  have h1 : decide ((kb k).take s.size = kb s) = decide (k.extract 0 s.size = s) := by
    rw [← kb_ext]
    exact decide_eq_decide.2 ⟨kb_inj, fun e => by rw [e]⟩
  have h2 : decide (some (k[s.size]'(by omega)) = some 35) = decide ((k[s.size]'(by omega)).toNat = 35) := decide_eq_decide.2 ⟨fun e => by rw [Option.some.inj e]; rfl, fun e => by
    congr 1
    exact UInt8.toNat_inj.1 e⟩
  have h3 : ((kb k).drop (s.size + 1)).isEmpty = false := by
    rw [List.isEmpty_eq_false_iff]
    intro e
    have := congrArg List.length e
    rw [List.length_drop, kb_len] at this
    simp at this
    omega
  rw [h1, h2, h3]
  simp
theorem ver_end {k : ByteArray} {n : Nat} {pl : Bool} (h : pl = true ↔ ∀ i, n ≤ i → (h : i < k.size) → k[i].toNat ≠ 35) : (!((kb k).drop n).contains 35) = pl := by
  rw [Bool.eq_iff_iff, h, Bool.not_eq_true', Bool.eq_false_iff, ne_eq, List.contains_iff_mem]
  constructor
  · intro hm i h1 h2 e
    refine hm ?_
    refine List.mem_of_getElem? (i := i - n) ?_
    rw [List.getElem?_drop, show n + (i - n) = i by omega, kb_get k i h2]
    congr 1
    exact UInt8.toNat_inj.1 e
  · intro hm hc
    obtain ⟨i, hi⟩ := List.getElem?_of_mem hc
    rw [List.getElem?_drop] at hi
    by_cases hlt : n + i < k.size
    · rw [kb_get k _ hlt] at hi
      exact hm (n + i) (by omega) hlt (by rw [Option.some.inj hi]; rfl)
    · rw [List.getElem?_eq_none (by rw [kb_len]; omega)] at hi
      cases hi
end Go.Tw.Po
namespace Go.Proofs.YtifcelebfagjbaaGreatDoor
open Go.RowKit Go.Tw Go.Tw.Ord Go.Tw.Po Go.Sort
set_option maxRecDepth 100000 in
set_option maxHeartbeats 4000000 in
theorem versionR_any (l : List Ent) (v : Value) (s : ByteArray) (w : World) (h : SlIs (tEnt 101) (· < w.heap.size) w v l) (hs : s.size ≤ 100000) (hl : l.length ≤ 1000000) :
    Calls Tryz.prog 76 #[.agg #[v], .string s] w fun e w' => e = .returned (.int .i64 (verN l s)) ∧ Below w.heap.size w w' := by
  have HB := Lib.hid (bl_alloc (Below.refl w.heap.size w) (.cells #[v] 68))
  have n0 := alloc1_0 w (.cells #[v] 68)
  obtain ⟨ao, cap, bi, off, rfl, h1, h2, ho⟩ := ent_open h
  unfold maxLen at h2
  have HO := Lib.hid ho
  have d0 : (w.alloc (.cells #[.slice ao l.length cap] 68)).cell? ⟨w.heap.size, 0, none⟩ = some (.slice ao l.length cap) := cell_of_row _ _ 0 _ _ _ n0
  clear h ho n0
  go_enter Tryz.func76, Tryz.ntmps76
  go_wp2
  generalize w.alloc (.cells #[.slice ao l.length cap] 68) = w0 at HB d0 ⊢
  go_loopg [5, 6] l.length (fun g n i wr => ∃ k : Nat, k + g = l.length ∧ i = .int .i64 k ∧ n = .int .i64 (verN (l.take k) s : Nat) ∧ wr = w0)
  case atStart => exact ⟨0, by omega, rfl, rfl, rfl⟩
  case round =>
    obtain ⟨k, hk, rfl, rfl, rfl⟩ := hrel
    by_cases hlt : k < l.length
    · obtain ⟨rfl, -, hbi, hok, hv, hsl, c0, c1, c2⟩ := HO.out wr (.of_below HB.out) k hlt
      have k0 : (0 : Int) ≤ (k : Int) := by omega
      have k1 : (k : Int) < (l.length : Int) := by omega
      have HT := Lib.hid (ver_take (s := s) hlt)
      have hle : verN (l.take k) s ≤ k := Nat.le_trans ver_le (List.length_take_le _ _)
      obtain ⟨n, hn⟩ : ∃ n, verN (l.take k) s = n := ⟨_, rfl⟩
      rw [hn] at hle HT ⊢
      generalize l[k] = y at *
      obtain ⟨ky, yt, yp⟩ := y
      simp only at c0 HT
      have hw1 : IntKind.i64.wrap ((n : Int) + 1) = (n : Int) + 1 := wrap_in (by omega) (by omega)
      have hkz := hok.key
      unfold maxLen at hkz
      simp only at hkz
      clear hn hsl hok c1 c2
      by_cases hsh : ky.size ≤ s.size + 1
      · have HV := Lib.hid (ver_short hsh)
        have q1 : (ky.size : Int) ≤ (s.size : Int) + 1 := by omega
        go_wp2
        go_roundg (l.length - (k + 1))
        case measure => omega
        case rel => exact ⟨k + 1, by omega, by go_num, by rw [HT.out, HV.out]; rfl, rfl⟩
      · have q1 : ¬ (ky.size : Int) ≤ (s.size : Int) + 1 := by omega
        have q2 : (0 : Int) ≤ (s.size : Int) := by omega
        have q3 : (s.size : Int) ≤ (ky.size : Int) := by omega
        have q4 : (s.size : Int) < (ky.size : Int) := by omega
        have hlt2 : s.size < ky.size := by omega
        have HV := Lib.hid (ver_pre (k := ky) (s := s) (by omega))
        obtain ⟨b, hb⟩ : ∃ b, ((ky.extract 0 s.size).toList == s.toList) = b := ⟨_, rfl⟩
        have HBB := Lib.hid (show decide (ky.extract 0 s.size = s) = b by rw [← hb, eq_str])
        cases b with
        | false =>
          have HV2 := Lib.hid (show isVer ky s = false by rw [HV.out, HBB.out]; rfl)
          go_wp2
          go_roundg (l.length - (k + 1))
          case measure => omega
          case rel => exact ⟨k + 1, by omega, by go_num, by rw [HT.out, HV2.out]; rfl, rfl⟩
        | true =>
          by_cases h35 : (ky[s.size]'(by omega)).toNat = 35
          case neg =>
            have HV2 := Lib.hid (show isVer ky s = false by rw [HV.out, HBB.out, decide_eq_false h35]; rfl)
            have q5 : (((ky[s.size]'(by omega)).toNat : Int) != 35) = true := by simp; omega
            go_wp2
            go_roundg (l.length - (k + 1))
            case measure => omega
            case rel => exact ⟨k + 1, by omega, by go_num, by rw [HT.out, HV2.out]; rfl, rfl⟩
          have q5 : (((ky[s.size]'(by omega)).toNat : Int) != 35) = false := by simp; omega
          have HV2 := Lib.hid (show isVer ky s = (!((kb ky).drop (s.size + 1)).contains 35) by rw [HV.out, HBB.out, decide_eq_true h35]; simp)
          clear h35 HV
          go_wp2
          go_loopg [8, 9] (ky.size - (s.size + 1)) (fun g pv i wr2 => ∃ (j : Nat) (pl : Bool), j + g = ky.size ∧ s.size + 1 ≤ j ∧ i = .int .i64 j ∧ pv = .bool pl ∧ Hid (pl = true ↔ ∀ i, s.size + 1 ≤ i → i < j → (h : i < ky.size) → ky[i].toNat ≠ 35) ∧ wr2 = wr)
          case atStart => exact ⟨s.size + 1, true, by omega, by omega, by go_num, rfl, Lib.hid ⟨fun _ i h1 h2 => by omega, fun _ => rfl⟩, rfl⟩
          case round =>
            obtain ⟨j, pl, hj, hj1, rfl, rfl, HP, rfl⟩ := hrel
            by_cases hlt2 : j < ky.size
            · have j0 : (0 : Int) ≤ (j : Int) := by omega
              have j1 : (j : Int) < (ky.size : Int) := by omega
              cases pl with
              | false =>
                go_wp2
                go_roundg (ky.size - (j + 1))
                case measure => omega
                case rel => exact ⟨j + 1, false, by omega, by omega, by go_num, rfl, Lib.hid ⟨fun h => (by cases h), fun h => HP.out.2 fun i h1 h2 h3 => h i h1 (by omega) h3⟩, rfl⟩
              | true =>
                by_cases h35 : ky[j].toNat = 35
                · have q6 : ((ky[j].toNat : Int) != 35) = false := by simp; omega
                  have H35 := Lib.hid h35
                  clear h35
                  go_wp2
                  go_roundg (ky.size - (j + 1))
                  case measure => omega
                  case rel => exact ⟨j + 1, false, by omega, by omega, by go_num, rfl, Lib.hid ⟨fun h => (by cases h), fun h => absurd H35.out (h j hj1 (by omega) hlt2)⟩, rfl⟩
                · have q6 : ((ky[j].toNat : Int) != 35) = true := by simp; omega
                  have H35 := Lib.hid h35
                  clear h35
                  go_wp2
                  go_roundg (ky.size - (j + 1))
                  case measure => omega
                  case rel => exact ⟨j + 1, true, by omega, by omega, by go_num, rfl, Lib.hid ⟨fun _ i h1 h2 h3 => by
                    by_cases e : i = j
                    · subst e; exact H35.out
                    · exact HP.out.1 (by trivial) i h1 (by omega) h3, fun _ => (by trivial)⟩, rfl⟩
            · have hjd : decide ((j : Int) < (ky.size : Int)) = false := by simp; omega
              have HE := Lib.hid (HV2.out.trans (ver_end (k := ky) (n := s.size + 1) (pl := pl) (HP.out.trans ⟨fun h i h1 h3 => h i h1 (by omega) h3, fun h i h1 _ h3 => h i h1 h3⟩)))
              cases pl with
              | false =>
                go_wp2
                go_roundg (l.length - (k + 1))
                case measure => omega
                case rel => exact ⟨k + 1, by omega, by go_num, by rw [HT.out, HE.out]; rfl, rfl⟩
              | true =>
                go_wp2
                go_roundg (l.length - (k + 1))
                case measure => omega
                case rel => exact ⟨k + 1, by omega, by go_num, by rw [HT.out, HE.out]; go_num, rfl⟩
    · have hkd : decide ((k : Int) < (l.length : Int)) = false := by simp; omega
      rw [show l.take k = l from List.take_of_length_le (by omega)]
      go_wp2
      go_ret
      exact ⟨rfl, HB.out⟩
end Go.Proofs.YtifcelebfagjbaaGreatDoor
/-
  Layer 37 (post): the reference's Apply.
-/
namespace Go.Proofs.YtifcelebfagjbaaGreatDoor
open Go.RowKit Go.Tw Go.Tw.Ord Go.Tw.Po Go.Sort
/-- the answer of the reference: it looks at what R allows -/
def BookR (R : Nat → Prop) (w : World) (r : Bk × Int) (e : Ending) (w' : World) : Prop := ∃ ve vd, e = .returned (.tuple #[.agg #[ve, vd], .int .i64 r.2]) ∧ SlIs (tEnt 101) (fun k => R k ∧ k < w'.heap.size) w' ve r.1.es ∧ SlIs (tChg eL) (fun k => R k ∧ k < w'.heap.size) w' vd r.1.ds ∧ Below w.heap.size w w'
theorem keepR {α : Type} {T : Ty α} {R : Nat → Prop} {w w' : World} {v : Value} {l : List α} (h : SlIs T (fun k => R k ∧ k < w.heap.size) w v l) (hb : Below w.heap.size w w') : SlIs T (fun k => R k ∧ k < w'.heap.size) w' v l :=
  h.keep (fun q hq => ⟨hq.1, Nat.lt_of_lt_of_le hq.2 hb.size⟩) (fun q hq => hb.block q hq.2)
theorem ltR {α : Type} {T : Ty α} {R : Nat → Prop} {w : World} {v : Value} {l : List α} (h : SlIs T (fun k => R k ∧ k < w.heap.size) w v l) : SlIs T (· < w.heap.size) w v l :=
  h.keep (fun _ hq => hq.2) (SameOn.refl _ _)
theorem BookR.old {R : Nat → Prop} {w w' : World} {b : Bk} {z : Int} {ve vd : Value} (he : SlIs (tEnt 101) (fun k => R k ∧ k < w.heap.size) w ve b.es) (hd : SlIs (tChg eL) (fun k => R k ∧ k < w.heap.size) w vd b.ds) (hb : Below w.heap.size w w') : BookR R w (b, z) (.returned (.tuple #[.agg #[ve, vd], .int .i64 z])) w' :=
  ⟨ve, vd, rfl, keepR he hb, keepR hd hb, hb⟩
/-- Apply under way: its boxes, the posts -/
structure RA (w : World) (A : Array Value) (ve vd : Value) (x : Chg) (vx : Value) (l : List SI) (v : Value) (wr : World) : Prop where
  y : AW w.heap.size A ve vd x vx wr
  b : Below w.heap.size w wr
  s : SlIs tSI (· < wr.heap.size) wr v l
theorem RA.lt {w : World} {A : Array Value} {ve vd : Value} {x : Chg} {vx : Value} {l : List SI} {v : Value} {wr : World} (h : RA w A ve vd x vx l v wr) : w.heap.size + 3 < wr.heap.size := lt_of_heap h.y.b3
theorem RA.step {w : World} {A : Array Value} {ve vd : Value} {x : Chg} {vx : Value} {l : List SI} {v : Value} {wr w' : World} (h : RA w A ve vd x vx l v wr) (hb : Below wr.heap.size wr w') : RA w A ve vd x vx l v w' :=
  ⟨h.y.step hb h.lt, bl_trans h.b hb, h.s.step hb⟩
theorem RA.put {w : World} {A : Array Value} {ve vd : Value} {x : Chg} {vx : Value} {l l' : List SI} {v v' : Value} {wr w' : World} (h : RA w A ve vd x vx l v wr) (hb : Below wr.heap.size wr w') (hs : SlIs tSI (· < w'.heap.size) w' v' l') : RA w A ve vd x vx l' v' w' :=
  ⟨h.y.step hb h.lt, bl_trans h.b hb, hs⟩
theorem XB.step {g : Nat} {x : Chg} {v : Value} {w w' : World} (h : XB g x v w) (hb : Below w.heap.size w w') : XB g x v w' := (hb.block _ (lt_of_heap h)).trans h
theorem ldc_re {n : Nat} {A : Array Value} {w : World} (h : w.heap[n]? = some (.cells A 46 (0, 0))) (hs : A.size = 25) (d : Nat) (os : Array Obj) : Sem.run Tryz.prog (loadCellsFrom ⟨n, 0, none⟩ 0 25 #[]) (grow (redrawn w d) os) = .ok A (grow (redrawn w d) os) :=
  load_blk (((below_regrown w d os).block _ (lt_of_heap h)).trans h) hs _
theorem ldx_re {g : Nat} {x : Chg} {v : Value} {w : World} (h : XB g x v w) (d : Nat) (os : Array Obj) : Sem.run Tryz.prog (loadCellsFrom ⟨g, 0, none⟩ 0 7 #[]) (grow (redrawn w d) os) = .ok #[.string x.key, .string x.veh, .string x.sys, .int .i64 x.cls, .int .i64 x.tm, v, .int .i64 x.c] (grow (redrawn w d) os) :=
  load_blk (((below_regrown w d os).block _ (lt_of_heap h)).trans h) rfl _
theorem fmtR_re (n : Int) (hn : i64ok n) (w : World) (d : Nat) (os : Array Obj) : Calls Tryz.prog 37 #[.int .i64 n] (grow (redrawn w d) os) fun e w'' => e = .returned (.string (fmtS n)) ∧ ∃ p : Regrown, w'' = grow (redrawn w p.d) p.os :=
  Calls.regrown_of ((FormatR_any n hn _).mono fun _ _ h => ⟨h.1, h.2 ▸ Below.refl _ _⟩)
theorem move_eq (c : List Acc) (l : List SI) (x : Chg) (n : Int) : moveP c l x n = addP (addP l (debC c x) n) (creC x) (-n) := rfl
theorem debC_size {c : List Acc} {x : Chg} (hk : CfOk c) (hx : x.veh.size ≤ 30) : (debC c x).size ≤ maxLen := by
  unfold debC maxLen
  split
  · rename_i nm he
    have := owner_short hk he
    rw [ByteArray.size_append]
    show 8 + _ ≤ _
    omega
  · rw [ByteArray.size_append]
    show 5 + _ ≤ _
    omega
theorem creC_size {x : Chg} (hx : x.sys.size ≤ 30) : (creC x).size ≤ maxLen := by
  unfold creC maxLen
  rw [ByteArray.size_append]
  show 8 + _ ≤ _
  unfold orS orS orS
  split
  · split
    · show 8 + 0 ≤ _; omega
    · show 8 + 1 ≤ _; omega
  · omega
/-- books that a call has answered, in a box of their own -/
structure ER (wB : World) (P : Nat → Prop) (gy : Nat) (ve vd : Value) (es : List Ent) (ds : List Chg) (wx : World) : Prop where
  b : Below wB.heap.size wB wx
  lo : wB.heap.size ≤ gy
  g : BB gy ve vd wx
  se : SlIs (tEnt 101) (fun k => (P k ∨ wB.heap.size ≤ k) ∧ k ≠ gy ∧ k < wx.heap.size) wx ve es
  sd : SlIs (tChg eL) (fun k => (P k ∨ wB.heap.size ≤ k) ∧ k ≠ gy ∧ k < wx.heap.size) wx vd ds
theorem er_keep {α : Type} {T : Ty α} {wB wq w9 w' : World} {P : Nat → Prop} {gy : Nat} {v : Value} {l : List α} (hP : ∀ k, P k → k < wB.heap.size) (hq : wB.heap.size ≤ wq.heap.size) (hlo : wB.heap.size ≤ gy) (hg : gy < wq.heap.size ∨ w9.heap.size ≤ gy)
    (hs : SlIs T (fun k => (P k ∨ wq.heap.size ≤ k) ∧ k < w9.heap.size) w9 v l) (hsame : ∀ k, k ≠ gy → k < w9.heap.size → w'.heap[k]? = w9.heap[k]?) (hz : w9.heap.size ≤ w'.heap.size) : SlIs T (fun k => (P k ∨ wB.heap.size ≤ k) ∧ k ≠ gy ∧ k < w'.heap.size) w' v l :=
  have key : ∀ k, ((P k ∨ wq.heap.size ≤ k) ∧ k < w9.heap.size) → (P k ∨ wB.heap.size ≤ k) ∧ k ≠ gy ∧ k < w'.heap.size := fun k hk => by
    rcases hk.1 with h | h
    · have := hP k h
      exact ⟨.inl h, by omega, by omega⟩
    · exact ⟨.inr (by omega), by omega, by omega⟩
  hs.keep key (fun k hk => hsame k (key k hk).2.1 hk.2)
theorem ER.mk_set {wB wq w9 : World} {P : Nat → Prop} {gy : Nat} {z0 z1 ve vd : Value} {es : List Ent} {ds : List Chg} (hP : ∀ k, P k → k < wB.heap.size) (hb : Below wB.heap.size wB w9) (hq : wB.heap.size ≤ wq.heap.size) (hlo : wB.heap.size ≤ gy) (hg : gy < wq.heap.size)
    (hs : SlIs (tEnt 101) (fun k => (P k ∨ wq.heap.size ≤ k) ∧ k < w9.heap.size) w9 ve es) (hd : SlIs (tChg eL) (fun k => (P k ∨ wq.heap.size ≤ k) ∧ k < w9.heap.size) w9 vd ds) (h : BB gy z0 z1 w9) : ER wB P gy ve vd es ds ((w9.setCell ⟨gy, 0, none⟩ ve).setCell ⟨gy, 1, none⟩ vd) := by
  have hsame : ∀ k, k ≠ gy → k < w9.heap.size → ((w9.setCell ⟨gy, 0, none⟩ ve).setCell ⟨gy, 1, none⟩ vd).heap[k]? = w9.heap[k]? := fun k hk _ => (Below.heap_setCell _ _ _ _ hk).trans (Below.heap_setCell _ _ _ _ hk)
  have hz : w9.heap.size ≤ ((w9.setCell ⟨gy, 0, none⟩ ve).setCell ⟨gy, 1, none⟩ vd).heap.size := by simp
  exact ⟨bl_set (bl_set hb _ hlo) _ hlo, hlo, heap_setCell_same _ _ _ _ _ _ (heap_setCell_same _ _ _ _ _ _ h), er_keep hP hq hlo (.inl hg) hs hsame hz, er_keep hP hq hlo (.inl hg) hd hsame hz⟩
theorem ER.mk_alloc {wB wq w9 : World} {P : Nat → Prop} {ve vd : Value} {es : List Ent} {ds : List Chg} (hP : ∀ k, P k → k < wB.heap.size) (hb : Below wB.heap.size wB w9) (hq : wB.heap.size ≤ wq.heap.size)
    (hs : SlIs (tEnt 101) (fun k => (P k ∨ wq.heap.size ≤ k) ∧ k < w9.heap.size) w9 ve es) (hd : SlIs (tChg eL) (fun k => (P k ∨ wq.heap.size ≤ k) ∧ k < w9.heap.size) w9 vd ds) : ER wB P w9.heap.size ve vd es ds (w9.alloc (.cells #[ve, vd] 70)) := by
  have hsame : ∀ k, k ≠ w9.heap.size → k < w9.heap.size → (w9.alloc (.cells #[ve, vd] 70)).heap[k]? = w9.heap[k]? := fun k _ h => Below.heap_alloc _ _ _ h
  have hz : w9.heap.size ≤ (w9.alloc (.cells #[ve, vd] 70)).heap.size := by simp
  exact ⟨bl_alloc hb _, hb.size, heap_alloc_new _ _, er_keep hP hq hb.size (.inr (Nat.le_refl _)) hs hsame hz, er_keep hP hq hb.size (.inr (Nat.le_refl _)) hd hsame hz⟩
/-- at most k posts, of k amounts -/
def PL (k : Nat) (l : List SI) : Prop := Amt (k * 1125899906842624) l ∧ l.length ≤ k
theorem PL.nil : PL 0 [] := ⟨nil_amt _, Nat.le_refl _⟩
theorem PL.add {k : Nat} {l : List SI} {a : ByteArray} {n : Int} (h : PL k l) (h1 : -1125899906842624 ≤ n) (h2 : n ≤ 1125899906842624) : PL (k + 1) (addP l a n) :=
  ⟨(addP_amt h.1 (by omega) h1 h2).mono (by push_cast; omega), Nat.le_trans (addP_len _ _ _) (Nat.succ_le_succ h.2)⟩
theorem PL.amt {k : Nat} {l : List SI} (h : PL k l) (hk : k ≤ 4) : Amt 4611686018427387904 l := by
  have h4 : (k : Int) ≤ 4 := by omega
  exact h.1.mono (by omega)
set_option maxRecDepth 100000 in
set_option maxHeartbeats 8000000 in
theorem applyR_any (R : Nat → Prop) (L : List Chg) (N : Nat) (c : List Acc) (A : Array Value) (va ve vd vx : Value) (es : List Ent) (ds : List Chg) (x : Chg) (w : World) (hR : ∀ k, w.heap.size ≤ k → R k) (hA : CfgA A va) (hc : SlIs (tAcc 138) (· < w.heap.size) w va c) (hk : CfOk c) (hb : BOk L N ⟨es, ds⟩) (hN : N ≤ 900) (hxc : COk x)
    (he : SlIs (tEnt 101) (fun k => R k ∧ k < w.heap.size) w ve es) (hd : SlIs (tChg eL) (fun k => R k ∧ k < w.heap.size) w vd ds) (hx : ChgOk x) (hv : SlIs tSI (fun k => R k ∧ k < w.heap.size) w vx x.ls) :
    Calls Tryz.prog 41 #[.agg A, .agg #[ve, vd], .agg #[.string x.key, .string x.veh, .string x.sys, .int .i64 x.cls, .int .i64 x.tm, vx, .int .i64 x.c]] w (BookR R w (applyP c ⟨es, ds⟩ x)) := by
  have h0 := alloc4 w (.cells A 46) (.cells #[ve, vd] 70) (.cells #[.string x.key, .string x.veh, .string x.sys, .int .i64 x.cls, .int .i64 x.tm, vx, .int .i64 x.c] 49) (.cells #[.slice none 0 0, .slice none 0 0] 70)
  have HY := Lib.hid (show AW w.heap.size A ve vd x vx _ from ⟨h0.1, h0.2.1, h0.2.2.1, h0.2.2.2⟩)
  have HB0 := Lib.hid (bl_alloc (bl_alloc (bl_alloc (bl_alloc (Below.refl w.heap.size w) (.cells A 46)) (.cells #[ve, vd] 70)) (.cells #[.string x.key, .string x.veh, .string x.sys, .int .i64 x.cls, .int .i64 x.tm, vx, .int .i64 x.c] 49)) (.cells #[.slice none 0 0, .slice none 0 0] 70))
  have HCK := Lib.hid (pcheckR_any x vx _ hx ((ltR hv).step HB0.out) (by have := hxc.ls; omega))
  obtain ⟨xa, xc, _, _, rfl, -⟩ := id hv
  obtain ⟨ae, ce, _, _, rfl, -⟩ := id he
  obtain ⟨ad, cd, bd, od, rfl, hd1, hd2, -⟩ := chg_open hd
  have HA := Lib.hid hA
  have HC := Lib.hid hc
  have HK := Lib.hid hk
  have HX := Lib.hid hx
  have HXC := Lib.hid hxc
  have HV := Lib.hid hv
  have HE := Lib.hid he
  have HD := Lib.hid hd
  have HBK := Lib.hid hb
  have HRR := Lib.hid hR
  clear hA hc hk hx hxc hv h0 he hd hb hR
  obtain ⟨z, hz⟩ : ∃ z, chkC x = z := ⟨_, rfl⟩
  rw [hz] at HCK
  by_cases hz0 : z = 0
  case neg =>
    have HR := Lib.hid (ap_chk (c := c) (b := ⟨es, ds⟩) (x := x) (by rw [hz]; exact hz0))
    rw [hz] at HR
    have hz1 : (z != 0) = true := by simpa using hz0
    clear hz hz0
    go_enter Tryz.func41, Tryz.ntmps41
    go_wp2_with (fail)
    with_reducible refine HCK.out.mono ?_
    rintro r w2 ⟨rfl, hb⟩
    have HY2 := Lib.hid (HY.out.step hb (by simp))
    have HB2 := Lib.hid (bl_trans HB0.out hb)
    obtain ⟨e0, e1, ef⟩ := blk2 HY2.out.b3
    obtain ⟨d0, d1, -⟩ := blk2 HY2.out.b1
    have hlt := lt_of_heap HY2.out.b3
    clear hb HCK HY
    go_wp2
    have g5 : ((w2.setCell ⟨w.heap.size + 1 + 1 + 1, 0, none⟩ (.slice ae es.length ce)).setCell ⟨w.heap.size + 1 + 1 + 1, 1, none⟩ (.slice ad ds.length cd)).heap[w.heap.size + 1 + 1 + 1]? = some (.cells #[(.slice ae es.length ce), (.slice ad ds.length cd)] 70 (0, 0)) := heap_setCell_same _ _ _ _ _ _ (heap_setCell_same _ _ _ _ _ _ HY2.out.b3)
    have b5 : Below w.heap.size w ((w2.setCell ⟨w.heap.size + 1 + 1 + 1, 0, none⟩ (.slice ae es.length ce)).setCell ⟨w.heap.size + 1 + 1 + 1, 1, none⟩ (.slice ad ds.length cd)) := bl_set (bl_set HB2.out _ (by simp only; omega)) _ (by simp only; omega)
    obtain ⟨k0, k1, -⟩ := blk2 g5
    generalize (w2.setCell ⟨w.heap.size + 1 + 1 + 1, 0, none⟩ (.slice ae es.length ce)).setCell ⟨w.heap.size + 1 + 1 + 1, 1, none⟩ (.slice ad ds.length cd) = w9 at *
    refine bodyPost_ret (v := .tuple #[.agg #[(.slice ae es.length ce), (.slice ad ds.length cd)], .int .i64 z]) (by simp [results, Tryz.results41, go_sem, k0, k1]) rfl ?_
    rw [HR.out]
    exact BookR.old HE.out HD.out b5
  subst hz0
  have HCF := Lib.hid (chk_facts hz)
  have HZ := Lib.hid hz
  have hz1 : ((0 : Int) != 0) = false := rfl
  clear hz
  go_enter Tryz.func41, Tryz.ntmps41
  go_wp2_with (fail)
  with_reducible refine HCK.out.mono ?_
  rintro r w2 ⟨rfl, hb⟩
  have HY2 := Lib.hid (HY.out.step hb (by simp))
  have HB2 := Lib.hid (bl_trans HB0.out hb)
  clear hb HCK HY
  go_upto_region 5 with (fail)
  have o0 : OwnSl tSI 101 w2.heap.size (w2.alloc (.cells #[] 101)) (.slice (some ⟨w2.heap.size, 0, none⟩) 0 0) [] := OwnSl.lit (css := []) rfl trivial (Nat.le_refl _) (by decide)
  have hA3 := bl_alloc (Below.refl w2.heap.size w2) (.cells #[] 101)
  have HS3 := Lib.hid (show RA w A (.slice ae es.length ce) (.slice ad ds.length cd) x (.slice xa x.ls.length xc) [] _ _ from ⟨HY2.out.step hA3 (lt_of_heap HY2.out.b3), bl_trans HB2.out hA3, (NewL.ofOwn ownSI o0 (Nat.le_refl _)).sl'⟩)
  clear o0 hA3
  generalize w2.alloc (.cells #[] 101) = w3 at HS3 ⊢
  generalize w2.heap.size = g0 at HS3 ⊢
  clear HY2 HB2
  have HFD := Lib.hid (findR_any ds ae es.length ce (.slice ad ds.length cd) x.key w3 ((ltR HD.out).step HS3.out.b))
  obtain ⟨d0, d1, -⟩ := blk2 HS3.out.y.b1
  obtain ⟨x0, -⟩ := blk7 HS3.out.y.b2
  have x0' : w3.cell? ⟨w.heap.size + 1 + 1, 0, none⟩ = some (.string x.key) := x0
  clear x0
  go_wp2_with (fail)
  with_reducible refine HFD.out.mono ?_
  clear HFD
  rintro r w4 ⟨⟨vo, hso, rfl⟩, hb4⟩
  have HS4 := Lib.hid (HS3.out.step hb4)
  clear hb4 d0 d1 x0' HS3
  obtain ⟨oa, on, oc, rfl⟩ : ∃ a n c, vo = .slice a n c := by
    obtain ⟨a, c, _, _, e, -⟩ := hso
    exact ⟨a, _, c, e⟩
  clear hso
  have HPA := Lib.hid (show postsA c ds x = (match fndC ds x.key with | some o => moveP c (moveP c [] o (-o.c)) x x.c | none => moveP c [] x x.c) from rfl)
  have HFO := Lib.hid (fun o (h : fndC ds x.key = some o) => HBK.out.cok o (fnd_mem h).1)
  have HFC := Lib.hid (fun o (h : fndC ds x.key = some o) => HBK.out.chk o (fnd_mem h).1)
  have hxc : 0 ≤ x.c ∧ x.c ≤ 1125899906842624 := ⟨HCF.out.2.2.2.2.2.2.1, HCF.out.2.2.2.2.2.2.2.1⟩
  have hxn : IntKind.i64.wrap (-x.c) = -x.c := wrap_in (by omega) (by omega)
  have HM0 := Lib.hid PL.nil
  cases hf : fndC ds x.key with
  | none =>
    rw [hf] at HPA
    simp only at HPA
    have HPO := Lib.hid (show postsA c ds x = addP (addP [] (debC c x) x.c) (creC x) (-x.c) from HPA.out)
    clear HPA HFO HFC hf
    simp only [Option.getD_none, Option.isSome_none]
    go_upto_region 6 with (fail)
    have HS5 := Lib.hid (HS4.out.step (bl_alloc (Below.refl w4.heap.size w4) (.cells #[.string zeroC.key, .string zeroC.veh, .string zeroC.sys, .int .i64 zeroC.cls, .int .i64 zeroC.tm, .slice oa on oc, .int .i64 zeroC.c] 49)))
    generalize w4.alloc (.cells #[.string zeroC.key, .string zeroC.veh, .string zeroC.sys, .int .i64 zeroC.cls, .int .i64 zeroC.tm, .slice oa on oc, .int .i64 zeroC.c] 49) = w5 at HS5 ⊢
    have HM5 := HM0
    clear HM0 HS4
    have HG5 := Lib.hid (show XB (w.heap.size + 1 + 1) x (.slice xa x.ls.length xc) w5 from HS5.out.y.b2)
    have LDC := fun d os => ldc_re HS5.out.y.b0 HA.out.size d os
    have LDX := fun d os => ldx_re HG5.out d os
    have c6 := (blk7 HG5.out).2.2.2.2.2.2.1
    have b6 := cell_regrown c6
    clear c6
    have cD := fun d os => Calls.regrown_of (debit_any c A va x xa x.ls.length xc _ HA.out (HC.out.step (bl_trans HS5.out.b (below_regrown w5 d os))) HK.out HXC.out.veh)
    go_upto_region 9 with (fail)
    refine wp_region_below_tail 6 (by kernel_rfl) (by kernel_rfl) ?_
    simp only [List.take_succ_cons, List.take_zero, List.drop_succ_cons, List.drop_zero]
    quiet_step (fail)
    refine wpQuiet_step (fun K hK => ?_)
    rw [if_pos (show _ = true by kernel_rfl)]
    refine quiet_loadA (A := A) rfl Tryz.isAgg46 Tryz.sizeOf46 rfl (fun w' hw' => ?_) (hK _ ?_)
    · obtain ⟨⟨nq, osq⟩, rfl⟩ := hw'
      exact LDC nq osq
    clear hK K
    refine wpQuiet_step (fun K hK => ?_)
    rw [if_pos (show _ = true by kernel_rfl)]
    refine quiet_loadA (A := #[.string x.key, .string x.veh, .string x.sys, .int .i64 x.cls, .int .i64 x.tm, .slice xa x.ls.length xc, .int .i64 x.c]) rfl Tryz.isAgg49 Tryz.sizeOf49 rfl (fun w' hw' => ?_) (hK _ ?_)
    · obtain ⟨⟨nq, osq⟩, rfl⟩ := hw'
      exact LDX nq osq
    clear hK K
    (repeat (quiet_step (first | (go_at_call 38; with_reducible exact cD _ _))))
    refine wpQuiet_nil ?_
    intro wqA hqA
    have HQA := Lib.hid (HS5.out.step hqA)
    have HGA := Lib.hid (HG5.out.step hqA)
    have HAD := Lib.hid (addR_any [] _ (debC c x) x.c wqA HQA.out.s (Nat.le_trans HM5.out.2 (by decide)) (debC_size HK.out HXC.out.veh) (HM5.out.amt (by decide)) (by omega))
    have HMA := Lib.hid (HM5.out.add (a := (debC c x)) (n := x.c) (by omega) (by omega))
    clear hqA cD b6 LDX
    go_wp2_with (fail)
    with_reducible refine HAD.out.mono ?_
    clear HAD
    rintro r wA ⟨⟨vA, rfl, hnA⟩, hbA⟩
    have HSA := Lib.hid (HQA.out.put hbA hnA.sl')
    have HHA := Lib.hid (HGA.out.step hbA)
    clear HGA
    have HGA := HHA
    clear HHA
    obtain ⟨aA, cA, rfl, -⟩ := hnA.form
    clear hnA hbA HQA
    clear LDC
    have LDC := fun d os => ldc_re HSA.out.y.b0 HA.out.size d os
    have LDX := fun d os => ldx_re HGA.out d os
    have c6 := (blk7 HGA.out).2.2.2.2.2.2.1
    have b6 := cell_regrown c6
    clear c6
    have cD := fun d os => Calls.regrown_of (credit_any x (.slice xa x.ls.length xc) (grow (redrawn wA d) os) HXC.out.sys)
    go_upto_region 10 with (fail)
    refine wp_region_below_tail 6 (by kernel_rfl) (by kernel_rfl) ?_
    simp only [List.take_succ_cons, List.take_zero, List.drop_succ_cons, List.drop_zero]
    quiet_step (fail)
    refine wpQuiet_step (fun K hK => ?_)
    rw [if_pos (show _ = true by kernel_rfl)]
    refine quiet_loadA (A := #[.string x.key, .string x.veh, .string x.sys, .int .i64 x.cls, .int .i64 x.tm, .slice xa x.ls.length xc, .int .i64 x.c]) rfl Tryz.isAgg49 Tryz.sizeOf49 rfl (fun w' hw' => ?_) (hK _ ?_)
    · obtain ⟨⟨nq, osq⟩, rfl⟩ := hw'
      exact LDX nq osq
    clear hK K
    (repeat (quiet_step (first | (go_at_call 39; with_reducible exact cD _ _))))
    refine wpQuiet_nil ?_
    intro wqB hqB
    have HQB := Lib.hid (HSA.out.step hqB)
    have HGB := Lib.hid (HGA.out.step hqB)
    have HAD := Lib.hid (addR_any (addP [] (debC c x) x.c) _ (creC x) (-x.c) wqB HQB.out.s (Nat.le_trans HMA.out.2 (by decide)) (creC_size HXC.out.sys) (HMA.out.amt (by decide)) (by omega))
    have HMB := Lib.hid (HMA.out.add (a := (creC x)) (n := (-x.c)) (by omega) (by omega))
    clear hqB cD b6 LDX
    go_wp2_with (fail)
    with_reducible refine HAD.out.mono ?_
    clear HAD
    rintro r wB ⟨⟨vB, rfl, hnB⟩, hbB⟩
    have HSB := Lib.hid (HQB.out.put hbB hnB.sl')
    have HHB := Lib.hid (HGB.out.step hbB)
    clear HGB
    have HGB := HHB
    clear HHB
    obtain ⟨aB, cB, rfl, -⟩ := hnB.form
    clear hnB hbB HQB
    clear LDC HG5 HGA HGB HS5 HSA HM5 HMA
    generalize addP (addP [] (debC c x) x.c) (creC x) (-x.c) = pl at HSB HMB HPO ⊢
    have hvl : (verN es x.key : Int) ≤ 900 := by have h1 := HBK.out.len; have h2 := ver_le (l := es) (s := x.key); simp only at h1; omega
    have hv0 : 0 ≤ (verN es x.key : Int) := by omega
    have HVE := Lib.hid (show ∀ W, Below w.heap.size w W → Calls Tryz.prog 76 #[.agg #[.slice ae es.length ce], .string x.key] W fun e w' => e = .returned (.int .i64 (verN es x.key)) ∧ Below W.heap.size W w' from fun W hW => versionR_any es (.slice ae es.length ce) x.key W ((ltR HE.out).step hW) (by have := HXC.out.key; omega) (by have := HBK.out.len; simp only at this; omega))
    have hke := HXC.out.key
    have HAS := Lib.hid (fun es' z => @ap_s c ⟨es, ds⟩ x HZ.out es' z)
    simp only at HAS
    generalize (verN es x.key : Int) = vn at HVE hvl hv0 HAS
    have hvi : i64ok vn := by unfold i64ok; omega
    have HFM := Lib.hid (FormatR_any vn hvi)
    have hfz := fmt_size hvi
    have HKS := Lib.hid (keyC_size hke hvi)
    have HKE := Lib.hid (show keyC x.key vn = x.key ++ ⟨#[35]⟩ ++ fmtS vn from rfl)
    clear hvi
    generalize keyC x.key vn = kk at HKS HKE HAS
    generalize fmtS vn = fm at *
    obtain ⟨⟨es9, z9⟩, hen⟩ : ∃ r, enterL es kk x.tm (postsA c ds x) = r := ⟨_, rfl⟩
    rw [HPO.out] at hen
    have HEQ := Lib.hid hen
    have HEN := Lib.hid (show ∀ W, Below wB.heap.size wB W → Calls Tryz.prog 75 #[.agg #[.slice ae es.length ce, .slice ad ds.length cd], .string (x.key ++ ⟨#[35]⟩ ++ fm), .int .i64 x.tm, .slice aB pl.length cB] W (EntRE (fun k => (k < w.heap.size ∧ R k) ∨ W.heap.size ≤ k) W (.slice ad ds.length cd) es (es9, z9)) from fun W hW => by
      rw [← hen, ← HKE.out]
      exact enterR_any _ es (.slice ae es.length ce) ad ds.length cd kk x.tm pl (.slice aB pl.length cB) W (fun k hk => .inr hk) (HE.out.keep (fun q h => ⟨.inl ⟨h.2, h.1⟩, Nat.lt_of_lt_of_le h.2 (Nat.le_trans HSB.out.b.size hW.size)⟩) (fun q h => (bl_trans HSB.out.b hW).block q h.2)) (HSB.out.s.step hW) (Nat.le_trans HKS.out (by decide)) (by have := HCF.out; unfold i64ok; omega) HBK.out.es (by have := HBK.out.len; simp only at this; omega) (HPO.out ▸ postsA_len c ds x))
    unfold EntRE at HEN
    clear hen
    have hbz : w.heap.size ≤ wB.heap.size := HSB.out.b.size
    have HDO := Lib.hid (show ∀ (W W' : World), Below wB.heap.size wB W → Below W.heap.size W W' → SlIs (tChg eL) (fun k => ((k < w.heap.size ∧ R k) ∨ W.heap.size ≤ k) ∧ k < W'.heap.size) W' (.slice ad ds.length cd) ds from fun W W' h1 h2 => HD.out.keep (fun q h => ⟨.inl ⟨h.2, h.1⟩, Nat.lt_of_lt_of_le h.2 (Nat.le_trans hbz (Nat.le_trans h1.size h2.size))⟩) (fun q h => (bl_trans (bl_trans HSB.out.b h1) h2).block q h.2))
    have HL0 := Lib.hid (show ∀ w', Below wB.heap.size wB w' → w'.cell? ⟨w.heap.size + 1 + 1, 0, none⟩ = some (.string x.key) from fun w' h => (blk7 (HSB.out.step h).y.b2).1)
    have HL4 := Lib.hid (show ∀ w', Below wB.heap.size wB w' → w'.cell? ⟨w.heap.size + 1 + 1, 4, none⟩ = some (.int .i64 x.tm) from fun w' h => (blk7 (HSB.out.step h).y.b2).2.2.2.2.1)
    have HLB := Lib.hid (show ∀ w', Below wB.heap.size wB w' → w'.cell? ⟨w.heap.size + 1, 0, none⟩ = some (.slice ae es.length ce) ∧ w'.cell? ⟨w.heap.size + 1, 1, none⟩ = some (.slice ad ds.length cd) from fun w' h => ⟨(blk2 (HSB.out.step h).y.b1).1, (blk2 (HSB.out.step h).y.b1).2.1⟩)
    have HVB := Lib.hid (fun W (h : Below wB.heap.size wB W) => HVE.out W (bl_trans HSB.out.b h))
    have z1 : ¬ (9223372036854775807 < x.key.size + 1) := by omega
    have z2 : ¬ (9223372036854775807 < x.key.size + 1 + fm.size) := by omega
    have hPB := Lib.hid (show ∀ k, (k < w.heap.size ∧ R k) → k < wB.heap.size from fun k h => by omega)
    clear HVE hfz hvl hv0
    have HW := Lib.hid (Below.drew (Below.refl wB.heap.size wB))
    go_upto_region 11 with (fail)
    go_cut [12, 13] (fun yv fv wx => ∃ (gy : Nat) (v9 : Value), yv = .pointer (some ⟨gy, 0, none⟩) ∧ fv = .int .i64 z9 ∧ ER wB (fun k => k < w.heap.size ∧ R k) gy v9 (.slice ad ds.length cd) (if z9 = 0 then es9 else es) ds wx)
    case first =>
      refine wp_region_D (fun j => if j < 21 then 0 else if j < 21 then 1 else 2) (fun w' => Below wB.heap.size wB w') (by kernel_rfl) (HW.out) (fun hHeld => ?_)
      refine wpD_take (i := 0) (v := ?_) rfl (by kernel_rfl) (fun _ _ _ h => h) (Or.inl ⟨by kernel_rfl, ?_⟩) (by assumption) ?_
      rotate_left
      focus (intro w9 hS9; obtain ⟨z0, z1⟩ := HLB.out w9 hS9; clear hS9; go_simp; (try with_reducible rfl))
      (try simp only [List.getElem_toArray, List.getElem_cons_succ, List.getElem_cons_zero])
      (try simp only [Act.put])
      (try simp only [List.setIfInBounds_toArray])
      (repeat (first | simp only [List.set_cons_succ] | simp only [List.set_cons_zero]))
      refine wpD_take (i := 1) (v := ?_) rfl (by kernel_rfl) (fun _ _ _ h => h) (Or.inl ⟨by kernel_rfl, ?_⟩) (by assumption) ?_
      rotate_left
      focus (intro w9 hS9; clear hS9; go_simp; (try with_reducible rfl))
      (try simp only [List.getElem_toArray, List.getElem_cons_succ, List.getElem_cons_zero])
      (try simp only [Act.put])
      (try simp only [List.setIfInBounds_toArray])
      (repeat (first | simp only [List.set_cons_succ] | simp only [List.set_cons_zero]))
      refine wpD_take (i := 2) (v := ?_) rfl (by kernel_rfl) (fun _ _ _ h => h) (Or.inl ⟨by kernel_rfl, ?_⟩) (by assumption) ?_
      rotate_left
      focus (intro w9 hS9; have z0 := HL0.out w9 hS9; clear hS9; go_simp; (try with_reducible rfl))
      (try simp only [List.getElem_toArray, List.getElem_cons_succ, List.getElem_cons_zero])
      (try simp only [Act.put])
      (try simp only [List.setIfInBounds_toArray])
      (repeat (first | simp only [List.set_cons_succ] | simp only [List.set_cons_zero]))
      refine wpD_take (i := 3) (v := ?_) rfl (by kernel_rfl) (fun _ _ _ h => h) (Or.inl ⟨by kernel_rfl, ?_⟩) (by assumption) ?_
      rotate_left
      focus (intro w9 hS9; clear hS9; go_simp; (try with_reducible rfl))
      (try simp only [List.getElem_toArray, List.getElem_cons_succ, List.getElem_cons_zero])
      (try simp only [Act.put])
      (try simp only [List.setIfInBounds_toArray])
      (repeat (first | simp only [List.set_cons_succ] | simp only [List.set_cons_zero]))
      refine wpD_take (i := 4) (v := ?_) rfl (by kernel_rfl) (fun _ _ _ h => h) (Or.inl ⟨by kernel_rfl, ?_⟩) (by assumption) ?_
      rotate_left
      focus (intro w9 hS9; clear hS9; go_simp; (try with_reducible rfl))
      (try simp only [List.getElem_toArray, List.getElem_cons_succ, List.getElem_cons_zero])
      (try simp only [Act.put])
      (try simp only [List.setIfInBounds_toArray])
      (repeat (first | simp only [List.set_cons_succ] | simp only [List.set_cons_zero]))
      refine wpD_take (i := 5) (v := ?_) rfl (by kernel_rfl) (fun _ _ _ h => h) (Or.inl ⟨by kernel_rfl, ?_⟩) (by assumption) ?_
      rotate_left
      focus (intro w9 hS9; obtain ⟨z0, z1⟩ := HLB.out w9 hS9; clear hS9; go_simp; (try with_reducible rfl))
      (try simp only [List.getElem_toArray, List.getElem_cons_succ, List.getElem_cons_zero])
      (try simp only [Act.put])
      (try simp only [List.setIfInBounds_toArray])
      (repeat (first | simp only [List.set_cons_succ] | simp only [List.set_cons_zero]))
      refine wpD_take (i := 6) (v := ?_) rfl (by kernel_rfl) (fun _ _ _ h => h) (Or.inl ⟨by kernel_rfl, ?_⟩) (by assumption) ?_
      rotate_left
      focus (intro w9 hS9; clear hS9; go_simp; (try with_reducible rfl))
      (try simp only [List.getElem_toArray, List.getElem_cons_succ, List.getElem_cons_zero])
      (try simp only [Act.put])
      (try simp only [List.setIfInBounds_toArray])
      (repeat (first | simp only [List.set_cons_succ] | simp only [List.set_cons_zero]))
      refine wpD_take (i := 7) (v := ?_) rfl (by kernel_rfl) (fun _ _ _ h => h) (Or.inl ⟨by kernel_rfl, ?_⟩) (by assumption) ?_
      rotate_left
      focus (intro w9 hS9; have z0 := HL0.out w9 hS9; clear hS9; go_simp; (try with_reducible rfl))
      (try simp only [List.getElem_toArray, List.getElem_cons_succ, List.getElem_cons_zero])
      (try simp only [Act.put])
      (try simp only [List.setIfInBounds_toArray])
      (repeat (first | simp only [List.set_cons_succ] | simp only [List.set_cons_zero]))
      refine wpD_take (i := 11) (v := ?_) rfl (by kernel_rfl) (fun _ _ _ h => h) (Or.inl ⟨by kernel_rfl, ?_⟩) (by assumption) ?_
      rotate_left
      focus (intro w9 hS9; clear hS9; go_simp; (try with_reducible rfl))
      (try simp only [List.getElem_toArray, List.getElem_cons_succ, List.getElem_cons_zero])
      (try simp only [Act.put])
      (try simp only [List.setIfInBounds_toArray])
      (repeat (first | simp only [List.set_cons_succ] | simp only [List.set_cons_zero]))
      refine wpD_take (i := 12) (v := ?_) rfl (by kernel_rfl) (fun _ _ _ h => h) (Or.inl ⟨by kernel_rfl, ?_⟩) (by assumption) ?_
      rotate_left
      focus (intro w9 hS9; have z0 := HL4.out w9 hS9; clear hS9; go_simp; (try with_reducible rfl))
      (try simp only [List.getElem_toArray, List.getElem_cons_succ, List.getElem_cons_zero])
      (try simp only [Act.put])
      (try simp only [List.setIfInBounds_toArray])
      (repeat (first | simp only [List.set_cons_succ] | simp only [List.set_cons_zero]))
      refine wpD_take (i := 13) (v := ?_) rfl (by kernel_rfl) (fun _ _ _ h => h) (Or.inl ⟨by kernel_rfl, ?_⟩) (by assumption) ?_
      rotate_left
      focus (intro w9 hS9; clear hS9; go_simp; (try with_reducible rfl))
      (try simp only [List.getElem_toArray, List.getElem_cons_succ, List.getElem_cons_zero])
      (try simp only [Act.put])
      (try simp only [List.setIfInBounds_toArray])
      (repeat (first | simp only [List.set_cons_succ] | simp only [List.set_cons_zero]))
      refine wpD_ready (rs := [8, 18]) (by kernel_rfl) (by kernel_rfl) ?_
      refine AllReadyD.cons rfl (fun K hK => ?_) (AllReadyD.cons rfl (fun K hK => ?_) AllReadyD.nil)
      · rw [if_pos (show _ = true by kernel_rfl)]
        go_simp
        with_reducible refine (HVB.out _ HW.out).mono ?_
        rintro r w7 ⟨rfl, hbv⟩
        have HV := Lib.hid (bl_trans HW.out hbv)
        skip
        clear hbv HW
        have HW := HV
        clear HV
        clear hHeld
        refine hK.out _ _ ⟨fun _ => HW.out, fun h => absurd h (by decide)⟩ (fun hHeld0 => ?_)
        have hHeld := hHeld0.1 rfl
        clear hHeld0 hK K
        refine wpD_ready (rs := [9, 18]) (by kernel_rfl) (by kernel_rfl) ?_
        refine AllReadyD.cons rfl (fun K hK => ?_) (AllReadyD.cons rfl (fun K hK => ?_) AllReadyD.nil)
        · rw [if_pos (show _ = true by kernel_rfl)]
          go_simp
          with_reducible refine (HFM.out _).mono ?_
          rintro r w8 ⟨rfl, rfl⟩
          clear hHeld
          refine hK.out _ _ ⟨fun _ => HW.out, fun h => absurd h (by decide)⟩ (fun hHeld0 => ?_)
          have hHeld := hHeld0.1 rfl
          clear hHeld0 hK K
          refine wpD_take (i := 10) (v := ?_) rfl (by kernel_rfl) (fun _ _ _ h => h) (Or.inl ⟨by kernel_rfl, ?_⟩) (by assumption) ?_
          rotate_left
          focus (intro w9 hS9; clear hS9; go_simp; (try with_reducible rfl))
          (try simp only [List.getElem_toArray, List.getElem_cons_succ, List.getElem_cons_zero])
          (try simp only [Act.put])
          (try simp only [List.setIfInBounds_toArray])
          (repeat (first | simp only [List.set_cons_succ] | simp only [List.set_cons_zero]))
          refine wpD_ready (rs := [14, 18]) (by kernel_rfl) (by kernel_rfl) ?_
          refine AllReadyD.cons rfl (fun K hK => ?_) (AllReadyD.cons rfl (fun K hK => ?_) AllReadyD.nil)
          · rw [if_pos (show _ = true by kernel_rfl)]
            go_simp
            with_reducible refine (HEN.out _ HW.out).mono ?_
            rintro r w9 ⟨⟨v9, rfl, hs9⟩, hbe⟩
            have HS9 := Lib.hid hs9
            have HD9 := Lib.hid (HDO.out _ _ HW.out hbe)
            have HV := Lib.hid (bl_trans HW.out hbe)
            have HWQ := HW
            obtain ⟨a9, n9, c9, hv9⟩ : ∃ a n c, v9 = .slice a n c := by
              obtain ⟨a, c, _, _, e, -⟩ := hs9
              exact ⟨a, _, c, e⟩
            subst hv9
            skip
            clear hbe HW hs9
            have HW := HV
            clear HV
            clear hHeld
            refine hK.out _ _ ⟨fun _ => HW.out, fun h => absurd h (by decide)⟩ (fun hHeld0 => ?_)
            have hHeld := hHeld0.1 rfl
            clear hHeld0 hK K
            refine wpD_take (i := 15) (v := ?_) rfl (by kernel_rfl) (fun _ _ _ h => h) (Or.inl ⟨by kernel_rfl, ?_⟩) (by assumption) ?_
            rotate_left
            focus (intro w9 hS9; clear hS9; go_simp; (try with_reducible rfl))
            (try simp only [List.getElem_toArray, List.getElem_cons_succ, List.getElem_cons_zero])
            (try simp only [Act.put])
            (try simp only [List.setIfInBounds_toArray])
            (repeat (first | simp only [List.set_cons_succ] | simp only [List.set_cons_zero]))
            refine wpD_take (i := 16) (v := ?_) rfl (by kernel_rfl) (fun _ _ _ h => h) (Or.inl ⟨by kernel_rfl, ?_⟩) (by assumption) ?_
            rotate_left
            focus (intro w9 hS9; clear hS9; go_simp; (try with_reducible rfl))
            (try simp only [List.getElem_toArray, List.getElem_cons_succ, List.getElem_cons_zero])
            (try simp only [Act.put])
            (try simp only [List.setIfInBounds_toArray])
            (repeat (first | simp only [List.set_cons_succ] | simp only [List.set_cons_zero]))
            refine wpD_take (i := 17) (v := ?_) rfl (by kernel_rfl) (fun _ _ _ h => h) (Or.inl ⟨by kernel_rfl, ?_⟩) (by assumption) ?_
            rotate_left
            focus (intro w9 hS9; clear hS9; go_simp; (try with_reducible rfl))
            (try simp only [List.getElem_toArray, List.getElem_cons_succ, List.getElem_cons_zero])
            (try simp only [Act.put])
            (try simp only [List.setIfInBounds_toArray])
            (repeat (first | simp only [List.set_cons_succ] | simp only [List.set_cons_zero]))
            refine wpD_ready (rs := [18]) (by kernel_rfl) (by kernel_rfl) ?_
            refine AllReadyD.cons rfl (fun K hK => ?_) AllReadyD.nil
            rw [if_pos (show _ = true by kernel_rfl)]
            go_simp
            clear hHeld
            refine hK.out _ _ ⟨fun _ => bl_alloc HW.out _, fun h => absurd h (by decide)⟩ (fun hHeld0 => ?_)
            have hHeld := hHeld0.1 rfl
            clear hHeld0 hK K
            refine wpD_ready (rs := [19]) (by kernel_rfl) (by kernel_rfl) ?_
            refine AllReadyD.cons rfl (fun K hK => ?_) AllReadyD.nil
            rw [if_pos (show _ = true by kernel_rfl)]
            go_simp
            clear hHeld
            refine hK.out _ _ ⟨fun _ => bl_alloc HW.out _, fun h => absurd h (by decide)⟩ (fun hHeld0 => ?_)
            have hHeld := hHeld0.1 rfl
            clear hHeld0 hK K
            refine wpD_ready (rs := [20]) (by kernel_rfl) (by kernel_rfl) ?_
            refine AllReadyD.cons rfl (fun K hK => ?_) AllReadyD.nil
            rw [if_pos (show _ = true by kernel_rfl)]
            go_simp
            clear hHeld
            refine hK.out _ _ ⟨fun _ => bl_alloc HW.out _, fun h => absurd h (by decide)⟩ (fun hHeld0 => ?_)
            have hHeld := hHeld0.1 rfl
            clear hHeld0 hK K
            refine wpD_done (by kernel_rfl) ?_
            go_wp2_with (fail)
            go_meet
            exact ⟨_, _, rfl, rfl, ER.mk_alloc hPB.out HW.out HWQ.out.size HS9.out HD9.out⟩
          · rw [if_pos (show _ = true by kernel_rfl)]
            go_simp
            clear hHeld
            refine hK.out _ _ ⟨fun _ => bl_alloc HW.out _, fun h => absurd h (by decide)⟩ (fun hHeld0 => ?_)
            have hHeld := hHeld0.1 rfl
            clear hHeld0 hK K
            have HYB := Lib.hid (show BB (w7).heap.size (.slice none 0 0) (.slice none 0 0) _ from heap_alloc_new (w7) (.cells #[.slice none 0 0, .slice none 0 0] 70))
            have HV := Lib.hid (bl_alloc HW.out (.cells #[.slice none 0 0, .slice none 0 0] 70))
            have hgy : wB.heap.size ≤ (w7).heap.size := HW.out.size
            clear HW
            have HW := HV
            clear HV
            generalize (w7).alloc (.cells #[.slice none 0 0, .slice none 0 0] 70) = wy at HYB HW hHeld ⊢
            generalize (w7).heap.size = gy at HYB hgy ⊢
            refine wpD_ready (rs := [14]) (by kernel_rfl) (by kernel_rfl) ?_
            refine AllReadyD.cons rfl (fun K hK => ?_) AllReadyD.nil
            rw [if_pos (show _ = true by kernel_rfl)]
            go_simp
            with_reducible refine (HEN.out _ HW.out).mono ?_
            rintro r w9 ⟨⟨v9, rfl, hs9⟩, hbe⟩
            have HS9 := Lib.hid hs9
            have HD9 := Lib.hid (HDO.out _ _ HW.out hbe)
            have HV := Lib.hid (bl_trans HW.out hbe)
            have HWQ := HW
            obtain ⟨a9, n9, c9, hv9⟩ : ∃ a n c, v9 = .slice a n c := by
              obtain ⟨a, c, _, _, e, -⟩ := hs9
              exact ⟨a, _, c, e⟩
            subst hv9
            have hgq := lt_of_heap HYB.out; have HYC := Lib.hid ((hbe.block _ hgq).trans HYB.out); clear HYB; have HYB := HYC; clear HYC
            clear hbe HW hs9
            have HW := HV
            clear HV
            clear hHeld
            refine hK.out _ _ ⟨fun _ => HW.out, fun h => absurd h (by decide)⟩ (fun hHeld0 => ?_)
            have hHeld := hHeld0.1 rfl
            clear hHeld0 hK K
            refine wpD_take (i := 15) (v := ?_) rfl (by kernel_rfl) (fun _ _ _ h => h) (Or.inl ⟨by kernel_rfl, ?_⟩) (by assumption) ?_
            rotate_left
            focus (intro w9 hS9; clear hS9; go_simp; (try with_reducible rfl))
            (try simp only [List.getElem_toArray, List.getElem_cons_succ, List.getElem_cons_zero])
            (try simp only [Act.put])
            (try simp only [List.setIfInBounds_toArray])
            (repeat (first | simp only [List.set_cons_succ] | simp only [List.set_cons_zero]))
            refine wpD_take (i := 16) (v := ?_) rfl (by kernel_rfl) (fun _ _ _ h => h) (Or.inl ⟨by kernel_rfl, ?_⟩) (by assumption) ?_
            rotate_left
            focus (intro w9 hS9; clear hS9; go_simp; (try with_reducible rfl))
            (try simp only [List.getElem_toArray, List.getElem_cons_succ, List.getElem_cons_zero])
            (try simp only [Act.put])
            (try simp only [List.setIfInBounds_toArray])
            (repeat (first | simp only [List.set_cons_succ] | simp only [List.set_cons_zero]))
            refine wpD_take (i := 17) (v := ?_) rfl (by kernel_rfl) (fun _ _ _ h => h) (Or.inl ⟨by kernel_rfl, ?_⟩) (by assumption) ?_
            rotate_left
            focus (intro w9 hS9; clear hS9; go_simp; (try with_reducible rfl))
            (try simp only [List.getElem_toArray, List.getElem_cons_succ, List.getElem_cons_zero])
            (try simp only [Act.put])
            (try simp only [List.setIfInBounds_toArray])
            (repeat (first | simp only [List.set_cons_succ] | simp only [List.set_cons_zero]))
            obtain ⟨y0, y1, yf⟩ := blk2 HYB.out
            have hgl := lt_of_heap HYB.out
            refine wpD_ready (rs := [19]) (by kernel_rfl) (by kernel_rfl) ?_
            refine AllReadyD.cons rfl (fun K hK => ?_) AllReadyD.nil
            rw [if_pos (show _ = true by kernel_rfl)]
            go_simp
            clear hHeld
            refine hK.out _ _ ⟨fun _ => bl_set (bl_set HW.out _ hgy) _ hgy, fun h => absurd h (by decide)⟩ (fun hHeld0 => ?_)
            have hHeld := hHeld0.1 rfl
            clear hHeld0 hK K
            refine wpD_ready (rs := [20]) (by kernel_rfl) (by kernel_rfl) ?_
            refine AllReadyD.cons rfl (fun K hK => ?_) AllReadyD.nil
            rw [if_pos (show _ = true by kernel_rfl)]
            go_simp
            clear hHeld
            refine hK.out _ _ ⟨fun _ => bl_set (bl_set HW.out _ hgy) _ hgy, fun h => absurd h (by decide)⟩ (fun hHeld0 => ?_)
            have hHeld := hHeld0.1 rfl
            clear hHeld0 hK K
            refine wpD_done (by kernel_rfl) ?_
            go_wp2_with (fail)
            go_meet
            exact ⟨_, _, rfl, rfl, ER.mk_set hPB.out HW.out HWQ.out.size hgy hgq HS9.out HD9.out HYB.out⟩
        · rw [if_pos (show _ = true by kernel_rfl)]
          go_simp
          clear hHeld
          refine hK.out _ _ ⟨fun _ => bl_alloc HW.out _, fun h => absurd h (by decide)⟩ (fun hHeld0 => ?_)
          have hHeld := hHeld0.1 rfl
          clear hHeld0 hK K
          have HYB := Lib.hid (show BB (w7).heap.size (.slice none 0 0) (.slice none 0 0) _ from heap_alloc_new (w7) (.cells #[.slice none 0 0, .slice none 0 0] 70))
          have HV := Lib.hid (bl_alloc HW.out (.cells #[.slice none 0 0, .slice none 0 0] 70))
          have hgy : wB.heap.size ≤ (w7).heap.size := HW.out.size
          clear HW
          have HW := HV
          clear HV
          generalize (w7).alloc (.cells #[.slice none 0 0, .slice none 0 0] 70) = wy at HYB HW hHeld ⊢
          generalize (w7).heap.size = gy at HYB hgy ⊢
          refine wpD_ready (rs := [9]) (by kernel_rfl) (by kernel_rfl) ?_
          refine AllReadyD.cons rfl (fun K hK => ?_) AllReadyD.nil
          rw [if_pos (show _ = true by kernel_rfl)]
          go_simp
          with_reducible refine (HFM.out _).mono ?_
          rintro r w8 ⟨rfl, rfl⟩
          clear hHeld
          refine hK.out _ _ ⟨fun _ => HW.out, fun h => absurd h (by decide)⟩ (fun hHeld0 => ?_)
          have hHeld := hHeld0.1 rfl
          clear hHeld0 hK K
          refine wpD_take (i := 10) (v := ?_) rfl (by kernel_rfl) (fun _ _ _ h => h) (Or.inl ⟨by kernel_rfl, ?_⟩) (by assumption) ?_
          rotate_left
          focus (intro w9 hS9; clear hS9; go_simp; (try with_reducible rfl))
          (try simp only [List.getElem_toArray, List.getElem_cons_succ, List.getElem_cons_zero])
          (try simp only [Act.put])
          (try simp only [List.setIfInBounds_toArray])
          (repeat (first | simp only [List.set_cons_succ] | simp only [List.set_cons_zero]))
          refine wpD_ready (rs := [14]) (by kernel_rfl) (by kernel_rfl) ?_
          refine AllReadyD.cons rfl (fun K hK => ?_) AllReadyD.nil
          rw [if_pos (show _ = true by kernel_rfl)]
          go_simp
          with_reducible refine (HEN.out _ HW.out).mono ?_
          rintro r w9 ⟨⟨v9, rfl, hs9⟩, hbe⟩
          have HS9 := Lib.hid hs9
          have HD9 := Lib.hid (HDO.out _ _ HW.out hbe)
          have HV := Lib.hid (bl_trans HW.out hbe)
          have HWQ := HW
          obtain ⟨a9, n9, c9, hv9⟩ : ∃ a n c, v9 = .slice a n c := by
            obtain ⟨a, c, _, _, e, -⟩ := hs9
            exact ⟨a, _, c, e⟩
          subst hv9
          have hgq := lt_of_heap HYB.out; have HYC := Lib.hid ((hbe.block _ hgq).trans HYB.out); clear HYB; have HYB := HYC; clear HYC
          clear hbe HW hs9
          have HW := HV
          clear HV
          clear hHeld
          refine hK.out _ _ ⟨fun _ => HW.out, fun h => absurd h (by decide)⟩ (fun hHeld0 => ?_)
          have hHeld := hHeld0.1 rfl
          clear hHeld0 hK K
          refine wpD_take (i := 15) (v := ?_) rfl (by kernel_rfl) (fun _ _ _ h => h) (Or.inl ⟨by kernel_rfl, ?_⟩) (by assumption) ?_
          rotate_left
          focus (intro w9 hS9; clear hS9; go_simp; (try with_reducible rfl))
          (try simp only [List.getElem_toArray, List.getElem_cons_succ, List.getElem_cons_zero])
          (try simp only [Act.put])
          (try simp only [List.setIfInBounds_toArray])
          (repeat (first | simp only [List.set_cons_succ] | simp only [List.set_cons_zero]))
          refine wpD_take (i := 16) (v := ?_) rfl (by kernel_rfl) (fun _ _ _ h => h) (Or.inl ⟨by kernel_rfl, ?_⟩) (by assumption) ?_
          rotate_left
          focus (intro w9 hS9; clear hS9; go_simp; (try with_reducible rfl))
          (try simp only [List.getElem_toArray, List.getElem_cons_succ, List.getElem_cons_zero])
          (try simp only [Act.put])
          (try simp only [List.setIfInBounds_toArray])
          (repeat (first | simp only [List.set_cons_succ] | simp only [List.set_cons_zero]))
          refine wpD_take (i := 17) (v := ?_) rfl (by kernel_rfl) (fun _ _ _ h => h) (Or.inl ⟨by kernel_rfl, ?_⟩) (by assumption) ?_
          rotate_left
          focus (intro w9 hS9; clear hS9; go_simp; (try with_reducible rfl))
          (try simp only [List.getElem_toArray, List.getElem_cons_succ, List.getElem_cons_zero])
          (try simp only [Act.put])
          (try simp only [List.setIfInBounds_toArray])
          (repeat (first | simp only [List.set_cons_succ] | simp only [List.set_cons_zero]))
          obtain ⟨y0, y1, yf⟩ := blk2 HYB.out
          have hgl := lt_of_heap HYB.out
          refine wpD_ready (rs := [19]) (by kernel_rfl) (by kernel_rfl) ?_
          refine AllReadyD.cons rfl (fun K hK => ?_) AllReadyD.nil
          rw [if_pos (show _ = true by kernel_rfl)]
          go_simp
          clear hHeld
          refine hK.out _ _ ⟨fun _ => bl_set (bl_set HW.out _ hgy) _ hgy, fun h => absurd h (by decide)⟩ (fun hHeld0 => ?_)
          have hHeld := hHeld0.1 rfl
          clear hHeld0 hK K
          refine wpD_ready (rs := [20]) (by kernel_rfl) (by kernel_rfl) ?_
          refine AllReadyD.cons rfl (fun K hK => ?_) AllReadyD.nil
          rw [if_pos (show _ = true by kernel_rfl)]
          go_simp
          clear hHeld
          refine hK.out _ _ ⟨fun _ => bl_set (bl_set HW.out _ hgy) _ hgy, fun h => absurd h (by decide)⟩ (fun hHeld0 => ?_)
          have hHeld := hHeld0.1 rfl
          clear hHeld0 hK K
          refine wpD_done (by kernel_rfl) ?_
          go_wp2_with (fail)
          go_meet
          exact ⟨_, _, rfl, rfl, ER.mk_set hPB.out HW.out HWQ.out.size hgy hgq HS9.out HD9.out HYB.out⟩
      · rw [if_pos (show _ = true by kernel_rfl)]
        go_simp
        clear hHeld
        refine hK.out _ _ ⟨fun _ => bl_alloc HW.out _, fun h => absurd h (by decide)⟩ (fun hHeld0 => ?_)
        have hHeld := hHeld0.1 rfl
        clear hHeld0 hK K
        have HYB := Lib.hid (show BB wB.heap.size (.slice none 0 0) (.slice none 0 0) (wB.alloc (.cells #[.slice none 0 0, .slice none 0 0] 70)).drew from heap_alloc_new wB (.cells #[.slice none 0 0, .slice none 0 0] 70))
        have HV := Lib.hid (Below.drew (bl_alloc (Below.refl wB.heap.size wB) (.cells #[.slice none 0 0, .slice none 0 0] 70)))
        have hgy : wB.heap.size ≤ wB.heap.size := Nat.le_refl _
        clear HW
        have HW := HV
        clear HV
        have hHeld : Below wB.heap.size wB (wB.alloc (.cells #[.slice none 0 0, .slice none 0 0] 70)).drew := HW.out
        generalize (wB.alloc (.cells #[.slice none 0 0, .slice none 0 0] 70)).drew = wy at HYB HW hHeld ⊢
        refine wpD_ready (rs := [8]) (by kernel_rfl) (by kernel_rfl) ?_
        refine AllReadyD.cons rfl (fun K hK => ?_) AllReadyD.nil
        rw [if_pos (show _ = true by kernel_rfl)]
        go_simp
        with_reducible refine (HVB.out _ HW.out).mono ?_
        rintro r w7 ⟨rfl, hbv⟩
        have HV := Lib.hid (bl_trans HW.out hbv)
        have hgq := lt_of_heap HYB.out; have HYC := Lib.hid ((hbv.block _ hgq).trans HYB.out); clear HYB; have HYB := HYC; clear HYC
        clear hbv HW
        have HW := HV
        clear HV
        clear hHeld
        refine hK.out _ _ ⟨fun _ => HW.out, fun h => absurd h (by decide)⟩ (fun hHeld0 => ?_)
        have hHeld := hHeld0.1 rfl
        clear hHeld0 hK K
        refine wpD_ready (rs := [9]) (by kernel_rfl) (by kernel_rfl) ?_
        refine AllReadyD.cons rfl (fun K hK => ?_) AllReadyD.nil
        rw [if_pos (show _ = true by kernel_rfl)]
        go_simp
        with_reducible refine (HFM.out _).mono ?_
        rintro r w8 ⟨rfl, rfl⟩
        clear hHeld
        refine hK.out _ _ ⟨fun _ => HW.out, fun h => absurd h (by decide)⟩ (fun hHeld0 => ?_)
        have hHeld := hHeld0.1 rfl
        clear hHeld0 hK K
        refine wpD_take (i := 10) (v := ?_) rfl (by kernel_rfl) (fun _ _ _ h => h) (Or.inl ⟨by kernel_rfl, ?_⟩) (by assumption) ?_
        rotate_left
        focus (intro w9 hS9; clear hS9; go_simp; (try with_reducible rfl))
        (try simp only [List.getElem_toArray, List.getElem_cons_succ, List.getElem_cons_zero])
        (try simp only [Act.put])
        (try simp only [List.setIfInBounds_toArray])
        (repeat (first | simp only [List.set_cons_succ] | simp only [List.set_cons_zero]))
        refine wpD_ready (rs := [14]) (by kernel_rfl) (by kernel_rfl) ?_
        refine AllReadyD.cons rfl (fun K hK => ?_) AllReadyD.nil
        rw [if_pos (show _ = true by kernel_rfl)]
        go_simp
        with_reducible refine (HEN.out _ HW.out).mono ?_
        rintro r w9 ⟨⟨v9, rfl, hs9⟩, hbe⟩
        have HS9 := Lib.hid hs9
        have HD9 := Lib.hid (HDO.out _ _ HW.out hbe)
        have HV := Lib.hid (bl_trans HW.out hbe)
        have HWQ := HW
        obtain ⟨a9, n9, c9, hv9⟩ : ∃ a n c, v9 = .slice a n c := by
          obtain ⟨a, c, _, _, e, -⟩ := hs9
          exact ⟨a, _, c, e⟩
        subst hv9
        have hgq := lt_of_heap HYB.out; have HYC := Lib.hid ((hbe.block _ hgq).trans HYB.out); clear HYB; have HYB := HYC; clear HYC
        clear hbe HW hs9
        have HW := HV
        clear HV
        clear hHeld
        refine hK.out _ _ ⟨fun _ => HW.out, fun h => absurd h (by decide)⟩ (fun hHeld0 => ?_)
        have hHeld := hHeld0.1 rfl
        clear hHeld0 hK K
        refine wpD_take (i := 15) (v := ?_) rfl (by kernel_rfl) (fun _ _ _ h => h) (Or.inl ⟨by kernel_rfl, ?_⟩) (by assumption) ?_
        rotate_left
        focus (intro w9 hS9; clear hS9; go_simp; (try with_reducible rfl))
        (try simp only [List.getElem_toArray, List.getElem_cons_succ, List.getElem_cons_zero])
        (try simp only [Act.put])
        (try simp only [List.setIfInBounds_toArray])
        (repeat (first | simp only [List.set_cons_succ] | simp only [List.set_cons_zero]))
        refine wpD_take (i := 16) (v := ?_) rfl (by kernel_rfl) (fun _ _ _ h => h) (Or.inl ⟨by kernel_rfl, ?_⟩) (by assumption) ?_
        rotate_left
        focus (intro w9 hS9; clear hS9; go_simp; (try with_reducible rfl))
        (try simp only [List.getElem_toArray, List.getElem_cons_succ, List.getElem_cons_zero])
        (try simp only [Act.put])
        (try simp only [List.setIfInBounds_toArray])
        (repeat (first | simp only [List.set_cons_succ] | simp only [List.set_cons_zero]))
        refine wpD_take (i := 17) (v := ?_) rfl (by kernel_rfl) (fun _ _ _ h => h) (Or.inl ⟨by kernel_rfl, ?_⟩) (by assumption) ?_
        rotate_left
        focus (intro w9 hS9; clear hS9; go_simp; (try with_reducible rfl))
        (try simp only [List.getElem_toArray, List.getElem_cons_succ, List.getElem_cons_zero])
        (try simp only [Act.put])
        (try simp only [List.setIfInBounds_toArray])
        (repeat (first | simp only [List.set_cons_succ] | simp only [List.set_cons_zero]))
        obtain ⟨y0, y1, yf⟩ := blk2 HYB.out
        have hgl := lt_of_heap HYB.out
        refine wpD_ready (rs := [19]) (by kernel_rfl) (by kernel_rfl) ?_
        refine AllReadyD.cons rfl (fun K hK => ?_) AllReadyD.nil
        rw [if_pos (show _ = true by kernel_rfl)]
        go_simp
        clear hHeld
        refine hK.out _ _ ⟨fun _ => bl_set (bl_set HW.out _ hgy) _ hgy, fun h => absurd h (by decide)⟩ (fun hHeld0 => ?_)
        have hHeld := hHeld0.1 rfl
        clear hHeld0 hK K
        refine wpD_ready (rs := [20]) (by kernel_rfl) (by kernel_rfl) ?_
        refine AllReadyD.cons rfl (fun K hK => ?_) AllReadyD.nil
        rw [if_pos (show _ = true by kernel_rfl)]
        go_simp
        clear hHeld
        refine hK.out _ _ ⟨fun _ => bl_set (bl_set HW.out _ hgy) _ hgy, fun h => absurd h (by decide)⟩ (fun hHeld0 => ?_)
        have hHeld := hHeld0.1 rfl
        clear hHeld0 hK K
        refine wpD_done (by kernel_rfl) ?_
        go_wp2_with (fail)
        go_meet
        exact ⟨_, _, rfl, rfl, ER.mk_set hPB.out HW.out HWQ.out.size hgy hgq HS9.out HD9.out HYB.out⟩
    case rest =>
      obtain ⟨gy, v9, rfl, rfl, her⟩ := hcut
      have HS10 := Lib.hid (HSB.out.step her.b)
      have HR10 := Lib.hid her
      obtain ⟨a9, n9, c9, hv9⟩ : ∃ a n c, v9 = .slice a n c := by
        obtain ⟨a, c, _, _, e, -⟩ := her.se
        exact ⟨a, _, c, e⟩
      subst hv9
      have hlt := HS10.out.lt
      have hgl := lt_of_heap her.g
      have hgw := her.lo
      have hltB := HSB.out.lt
      obtain ⟨y0, y1, yf⟩ := blk2 her.g
      clear her HVB HFM HEN HDO HL0 HL4 HLB HW hPB
      by_cases hz9 : z9 = 0
      case neg =>
        have HR := Lib.hid ((HAS.out es9 z9 (by rw [HPO.out]; exact HEQ.out)).trans (if_pos hz9))
        have hz2 : (z9 != 0) = true := by simpa using hz9
        have HYX := Lib.hid HS10.out.y
        have HBX := Lib.hid HS10.out.b
        obtain ⟨d0, d1, -⟩ := blk2 HYX.out.b1
        obtain ⟨e0, e1, ef⟩ := blk2 HYX.out.b3
        clear hz9
        go_wp2
        have g5 : ((wc.setCell ⟨w.heap.size + 1 + 1 + 1, 0, none⟩ (.slice ae es.length ce)).setCell ⟨w.heap.size + 1 + 1 + 1, 1, none⟩ (.slice ad ds.length cd)).heap[w.heap.size + 1 + 1 + 1]? = some (.cells #[(.slice ae es.length ce), (.slice ad ds.length cd)] 70 (0, 0)) := heap_setCell_same _ _ _ _ _ _ (heap_setCell_same _ _ _ _ _ _ HYX.out.b3)
        have b5 : Below w.heap.size w ((wc.setCell ⟨w.heap.size + 1 + 1 + 1, 0, none⟩ (.slice ae es.length ce)).setCell ⟨w.heap.size + 1 + 1 + 1, 1, none⟩ (.slice ad ds.length cd)) := bl_set (bl_set HBX.out _ (by simp only; omega)) _ (by simp only; omega)
        obtain ⟨k0, k1, -⟩ := blk2 g5
        generalize (wc.setCell ⟨w.heap.size + 1 + 1 + 1, 0, none⟩ (.slice ae es.length ce)).setCell ⟨w.heap.size + 1 + 1 + 1, 1, none⟩ (.slice ad ds.length cd) = w9 at *
        refine bodyPost_ret (v := .tuple #[.agg #[(.slice ae es.length ce), (.slice ad ds.length cd)], .int .i64 z9]) (by simp [results, Tryz.results41, go_sem, k0, k1]) rfl ?_
        rw [HR.out]
        exact BookR.old HE.out HD.out b5
      subst hz9
      have HR := Lib.hid ((HAS.out es9 0 (by rw [HPO.out]; exact HEQ.out)).trans (if_neg (by simp)))
      have hw10 := HS10.out.b.size
      have HPU := Lib.hid (putR_any (fun k => (k < w.heap.size ∧ R k) ∨ wc.heap.size ≤ k) ds (.slice ad ds.length cd) x xa xc wc (fun k hk => .inr hk) (HD.out.keep (fun q h => ⟨.inl ⟨h.2, h.1⟩, Nat.lt_of_lt_of_le h.2 hw10⟩) (fun q h => HS10.out.b.block q h.2)) (HV.out.keep (fun q h => ⟨.inl ⟨h.2, h.1⟩, Nat.lt_of_lt_of_le h.2 hw10⟩) (fun q h => HS10.out.b.block q h.2)) HX.out (by have := HBK.out.ds; simp only at this; omega) HBK.out.sort)
      obtain ⟨x0, x1, x2, x3, x4, x5, x6, -⟩ := blk7 HS10.out.y.b2
      have x0' : wc.cell? ⟨w.heap.size + 1 + 1, 0, none⟩ = some (.string x.key) := x0
      have x1' : wc.cell? ⟨w.heap.size + 1 + 1, 1, none⟩ = some (.string x.veh) := x1
      have x2' : wc.cell? ⟨w.heap.size + 1 + 1, 2, none⟩ = some (.string x.sys) := x2
      have x3' : wc.cell? ⟨w.heap.size + 1 + 1, 3, none⟩ = some (.int .i64 x.cls) := x3
      have x4' : wc.cell? ⟨w.heap.size + 1 + 1, 4, none⟩ = some (.int .i64 x.tm) := x4
      have x5' : wc.cell? ⟨w.heap.size + 1 + 1, 5, none⟩ = some (.slice xa x.ls.length xc) := x5
      have x6' : wc.cell? ⟨w.heap.size + 1 + 1, 6, none⟩ = some (.int .i64 x.c) := x6
      clear x0 x1 x2 x3 x4 x5 x6
      go_wp2_with (fail)
      with_reducible refine HPU.out.mono ?_
      clear HPU
      rintro r w11 ⟨⟨v11, rfl, hs11⟩, hb11⟩
      have HS11 := Lib.hid hs11
      obtain ⟨a11, c11, _, _, rfl, -⟩ := id hs11
      have HSA := Lib.hid (HS10.out.step hb11)
      have HG11 := Lib.hid (show BB gy (.slice a9 n9 c9) (.slice ad ds.length cd) w11 from (hb11.block _ hgl).trans HR10.out.g)
      have hse := HR10.out.se
      rw [if_pos (by trivial)] at hse
      have HE11 := Lib.hid (hse.keep (S' := fun k => ((k < w.heap.size ∧ R k) ∨ wB.heap.size ≤ k) ∧ k ≠ gy ∧ k < w11.heap.size) (fun q h => ⟨h.1, h.2.1, Nat.lt_of_lt_of_le h.2.2 hb11.size⟩) (fun q h => hb11.block q h.2.2))
      have hz11 := hb11.size
      clear hs11 hb11 hse y0 y1 yf x0' x1' x2' x3' x4' x5' x6'
      obtain ⟨y0, y1, yf⟩ := blk2 HG11.out
      have hgl11 := lt_of_heap HG11.out
      go_upto_region 15 with (fail)
      have hne : w.heap.size + 3 ≠ gy := by omega
      have g12 : (w11.setCell ⟨gy, 1, none⟩ (.slice a11 (putP ds x).length c11)).heap[gy]? = some (.cells #[.slice a9 n9 c9, .slice a11 (putP ds x).length c11] 70 (0, 0)) := heap_setCell_same _ _ _ _ _ _ HG11.out
      have e12 : BB (w.heap.size + 3) (.slice none 0 0) (.slice none 0 0) (w11.setCell ⟨gy, 1, none⟩ (.slice a11 (putP ds x).length c11)) := (Below.heap_setCell _ _ _ _ hne).trans HSA.out.y.b3
      have b12 : Below w.heap.size w (w11.setCell ⟨gy, 1, none⟩ (.slice a11 (putP ds x).length c11)) := bl_set HSA.out.b _ (by simp only; omega)
      have h12 : ∀ q, q ≠ gy → (w11.setCell ⟨gy, 1, none⟩ (.slice a11 (putP ds x).length c11)).heap[q]? = w11.heap[q]? := fun q hq => Below.heap_setCell _ _ _ _ hq
      have z12 : (w11.setCell ⟨gy, 1, none⟩ (.slice a11 (putP ds x).length c11)).heap.size = w11.heap.size := by simp
      clear y0 y1 yf
      generalize w11.setCell ⟨gy, 1, none⟩ (.slice a11 (putP ds x).length c11) = w12 at g12 e12 b12 h12 z12 ⊢
      obtain ⟨y0, y1, -⟩ := blk2 g12
      obtain ⟨e0, e1, ef⟩ := blk2 e12
      have e0' : w12.cell? ⟨w.heap.size + 1 + 1 + 1, 0, none⟩ = some (.slice none 0 0) := e0
      have e1' : w12.cell? ⟨w.heap.size + 1 + 1 + 1, 1, none⟩ = some (.slice none 0 0) := e1
      have ef' : ∀ j, w12.frozen? ⟨w.heap.size + 1 + 1 + 1, j, none⟩ = false := ef
      have hl12 : w.heap.size + 1 + 1 + 1 < w12.heap.size := lt_of_heap e12
      have H12 := Lib.hid h12
      have Z12 := Lib.hid z12
      have B12 := Lib.hid b12
      have E12 := Lib.hid e12
      clear e0 e1 ef h12 b12 z12 e12 g12
      go_wp2
      have g5 : ((w12.setCell ⟨w.heap.size + 1 + 1 + 1, 0, none⟩ (.slice a9 n9 c9)).setCell ⟨w.heap.size + 1 + 1 + 1, 1, none⟩ (.slice a11 (putP ds x).length c11)).heap[w.heap.size + 1 + 1 + 1]? = some (.cells #[.slice a9 n9 c9, .slice a11 (putP ds x).length c11] 70 (0, 0)) := heap_setCell_same _ _ _ _ _ _ (heap_setCell_same _ _ _ _ _ _ E12.out)
      have b5 : Below w.heap.size w ((w12.setCell ⟨w.heap.size + 1 + 1 + 1, 0, none⟩ (.slice a9 n9 c9)).setCell ⟨w.heap.size + 1 + 1 + 1, 1, none⟩ (.slice a11 (putP ds x).length c11)) := bl_set (bl_set B12.out _ (by simp only; omega)) _ (by simp only; omega)
      have hoth : ∀ q, q ≠ gy → q ≠ w.heap.size + 3 → ((w12.setCell ⟨w.heap.size + 1 + 1 + 1, 0, none⟩ (.slice a9 n9 c9)).setCell ⟨w.heap.size + 1 + 1 + 1, 1, none⟩ (.slice a11 (putP ds x).length c11)).heap[q]? = w11.heap[q]? := fun q h1 h2 => ((Below.heap_setCell _ _ _ _ h2).trans (Below.heap_setCell _ _ _ _ h2)).trans (H12.out q h1)
      have hz5 : w11.heap.size = ((w12.setCell ⟨w.heap.size + 1 + 1 + 1, 0, none⟩ (.slice a9 n9 c9)).setCell ⟨w.heap.size + 1 + 1 + 1, 1, none⟩ (.slice a11 (putP ds x).length c11)).heap.size := by simp [Z12.out]
      obtain ⟨k0, k1, -⟩ := blk2 g5
      clear y0 y1 e0' e1' ef'
      generalize (w12.setCell ⟨w.heap.size + 1 + 1 + 1, 0, none⟩ (.slice a9 n9 c9)).setCell ⟨w.heap.size + 1 + 1 + 1, 1, none⟩ (.slice a11 (putP ds x).length c11) = wf at *
      refine bodyPost_ret (v := .tuple #[.agg #[.slice a9 n9 c9, .slice a11 (putP ds x).length c11], .int .i64 0]) (by simp [results, Tryz.results41, go_sem, k0, k1]) rfl ?_
      rw [HR.out]
      exact ⟨_, _, rfl, HE11.out.keep (fun q h => ⟨h.1.elim (fun h => h.2) (fun h => HRR.out q (by omega)), by omega⟩) (fun q h => hoth q h.2.1 (by rcases h.1 with h | h <;> omega)), HS11.out.keep (fun q h => ⟨h.1.elim (fun h => h.2) (fun h => HRR.out q (by omega)), by omega⟩) (fun q h => hoth q (by rcases h.1 with h | h <;> omega) (by rcases h.1 with h | h <;> omega)), b5⟩
  | some o =>
    rw [hf] at HPA
    simp only at HPA
    have HPO := Lib.hid (show postsA c ds x = addP (addP (addP (addP [] (debC c o) (-o.c)) (creC o) (- -o.c)) (debC c x) x.c) (creC x) (-x.c) from HPA.out)
    rw [Int.neg_neg] at HPO
    have HFO := Lib.hid (HFO.out o hf)
    have hcf := chk_facts (HFC.out o hf)
    have hoc : 0 ≤ o.c ∧ o.c ≤ 1125899906842624 := ⟨hcf.2.2.2.2.2.2.1, hcf.2.2.2.2.2.2.2.1⟩
    have hon : IntKind.i64.wrap (-o.c) = -o.c := wrap_in (by omega) (by omega)
    clear HPA HFC hf hcf
    simp only [Option.getD_some, Option.isSome_some]
    go_upto_region 6 with (fail)
    have HS5 := Lib.hid (HS4.out.step (bl_alloc (Below.refl w4.heap.size w4) (.cells #[.string o.key, .string o.veh, .string o.sys, .int .i64 o.cls, .int .i64 o.tm, .slice oa on oc, .int .i64 o.c] 49)))
    have HG5 := Lib.hid (show XB w4.heap.size o (.slice oa on oc) _ from heap_alloc_new w4 (.cells #[.string o.key, .string o.veh, .string o.sys, .int .i64 o.cls, .int .i64 o.tm, .slice oa on oc, .int .i64 o.c] 49))
    generalize w4.alloc (.cells #[.string o.key, .string o.veh, .string o.sys, .int .i64 o.cls, .int .i64 o.tm, .slice oa on oc, .int .i64 o.c] 49) = w5 at HS5 HG5 ⊢
    generalize w4.heap.size = go at HG5 ⊢
    have HM5 := HM0
    clear HM0 HS4
    have LDC := fun d os => ldc_re HS5.out.y.b0 HA.out.size d os
    have LDX := fun d os => ldx_re HG5.out d os
    have c6 := (blk7 HG5.out).2.2.2.2.2.2.1
    have b6 := cell_regrown c6
    clear c6
    have cD := fun d os => Calls.regrown_of (debit_any c A va o oa on oc _ HA.out (HC.out.step (bl_trans HS5.out.b (below_regrown w5 d os))) HK.out HFO.out.veh)
    go_upto_region 7 with (fail)
    refine wp_region_below_tail 7 (by kernel_rfl) (by kernel_rfl) ?_
    simp only [List.take_succ_cons, List.take_zero, List.drop_succ_cons, List.drop_zero]
    quiet_step (fail)
    refine wpQuiet_step (fun K hK => ?_)
    rw [if_pos (show _ = true by kernel_rfl)]
    refine quiet_loadA (A := A) rfl Tryz.isAgg46 Tryz.sizeOf46 rfl (fun w' hw' => ?_) (hK _ ?_)
    · obtain ⟨⟨nq, osq⟩, rfl⟩ := hw'
      exact LDC nq osq
    clear hK K
    refine wpQuiet_step (fun K hK => ?_)
    rw [if_pos (show _ = true by kernel_rfl)]
    refine quiet_loadA (A := #[.string o.key, .string o.veh, .string o.sys, .int .i64 o.cls, .int .i64 o.tm, .slice oa on oc, .int .i64 o.c]) rfl Tryz.isAgg49 Tryz.sizeOf49 rfl (fun w' hw' => ?_) (hK _ ?_)
    · obtain ⟨⟨nq, osq⟩, rfl⟩ := hw'
      exact LDX nq osq
    clear hK K
    (repeat (quiet_step (first | (go_at_call 38; with_reducible exact cD _ _))))
    refine wpQuiet_nil ?_
    intro wq6 hq6
    have HQ6 := Lib.hid (HS5.out.step hq6)
    have HG6 := Lib.hid (HG5.out.step hq6)
    have HAD := Lib.hid (addR_any [] _ (debC c o) (-o.c) wq6 HQ6.out.s (Nat.le_trans HM5.out.2 (by decide)) (debC_size HK.out HFO.out.veh) (HM5.out.amt (by decide)) (by omega))
    have HM6 := Lib.hid (HM5.out.add (a := (debC c o)) (n := (-o.c)) (by omega) (by omega))
    clear hq6 cD b6 LDX
    go_wp2_with (fail)
    with_reducible refine HAD.out.mono ?_
    clear HAD
    rintro r w6 ⟨⟨v6, rfl, hn6⟩, hb6⟩
    have HS6 := Lib.hid (HQ6.out.put hb6 hn6.sl')
    have HH6 := Lib.hid (HG6.out.step hb6)
    clear HG6
    have HG6 := HH6
    clear HH6
    obtain ⟨a6, c6, rfl, -⟩ := hn6.form
    clear hn6 hb6 HQ6
    clear LDC
    have LDC := fun d os => ldc_re HS6.out.y.b0 HA.out.size d os
    have LDX := fun d os => ldx_re HG6.out d os
    have c6 := (blk7 HG6.out).2.2.2.2.2.2.1
    have b6 := cell_regrown c6
    clear c6
    have cD := fun d os => Calls.regrown_of (credit_any o (.slice oa on oc) (grow (redrawn w6 d) os) HFO.out.sys)
    go_upto_region 8 with (fail)
    refine wp_region_below_tail 5 (by kernel_rfl) (by kernel_rfl) ?_
    simp only [List.take_succ_cons, List.take_zero, List.drop_succ_cons, List.drop_zero]
    quiet_step (fail)
    refine wpQuiet_step (fun K hK => ?_)
    rw [if_pos (show _ = true by kernel_rfl)]
    refine quiet_loadA (A := #[.string o.key, .string o.veh, .string o.sys, .int .i64 o.cls, .int .i64 o.tm, .slice oa on oc, .int .i64 o.c]) rfl Tryz.isAgg49 Tryz.sizeOf49 rfl (fun w' hw' => ?_) (hK _ ?_)
    · obtain ⟨⟨nq, osq⟩, rfl⟩ := hw'
      exact LDX nq osq
    clear hK K
    (repeat (quiet_step (first | (go_at_call 39; with_reducible exact cD _ _))))
    refine wpQuiet_nil ?_
    intro wq7 hq7
    have HQ7 := Lib.hid (HS6.out.step hq7)
    have HG7 := Lib.hid (HG6.out.step hq7)
    have HAD := Lib.hid (addR_any (addP [] (debC c o) (-o.c)) _ (creC o) o.c wq7 HQ7.out.s (Nat.le_trans HM6.out.2 (by decide)) (creC_size HFO.out.sys) (HM6.out.amt (by decide)) (by omega))
    have HM7 := Lib.hid (HM6.out.add (a := (creC o)) (n := o.c) (by omega) (by omega))
    clear hq7 cD b6 LDX
    go_wp2_with (fail)
    with_reducible refine HAD.out.mono ?_
    clear HAD
    rintro r w7 ⟨⟨v7, rfl, hn7⟩, hb7⟩
    have HS7 := Lib.hid (HQ7.out.put hb7 hn7.sl')
    have HH7 := Lib.hid (HG7.out.step hb7)
    clear HG7
    have HG7 := HH7
    clear HH7
    obtain ⟨a7, c7, rfl, -⟩ := hn7.form
    clear hn7 hb7 HQ7
    clear LDC HG5 HG6 HG7 HS5 HS6 HM5 HM6
    have HG7 := Lib.hid (show XB (w.heap.size + 1 + 1) x (.slice xa x.ls.length xc) w7 from HS7.out.y.b2)
    have LDC := fun d os => ldc_re HS7.out.y.b0 HA.out.size d os
    have LDX := fun d os => ldx_re HG7.out d os
    have c6 := (blk7 HG7.out).2.2.2.2.2.2.1
    have b6 := cell_regrown c6
    clear c6
    have cD := fun d os => Calls.regrown_of (debit_any c A va x xa x.ls.length xc _ HA.out (HC.out.step (bl_trans HS7.out.b (below_regrown w7 d os))) HK.out HXC.out.veh)
    go_upto_region 9 with (fail)
    refine wp_region_below_tail 6 (by kernel_rfl) (by kernel_rfl) ?_
    simp only [List.take_succ_cons, List.take_zero, List.drop_succ_cons, List.drop_zero]
    quiet_step (fail)
    refine wpQuiet_step (fun K hK => ?_)
    rw [if_pos (show _ = true by kernel_rfl)]
    refine quiet_loadA (A := A) rfl Tryz.isAgg46 Tryz.sizeOf46 rfl (fun w' hw' => ?_) (hK _ ?_)
    · obtain ⟨⟨nq, osq⟩, rfl⟩ := hw'
      exact LDC nq osq
    clear hK K
    refine wpQuiet_step (fun K hK => ?_)
    rw [if_pos (show _ = true by kernel_rfl)]
    refine quiet_loadA (A := #[.string x.key, .string x.veh, .string x.sys, .int .i64 x.cls, .int .i64 x.tm, .slice xa x.ls.length xc, .int .i64 x.c]) rfl Tryz.isAgg49 Tryz.sizeOf49 rfl (fun w' hw' => ?_) (hK _ ?_)
    · obtain ⟨⟨nq, osq⟩, rfl⟩ := hw'
      exact LDX nq osq
    clear hK K
    (repeat (quiet_step (first | (go_at_call 38; with_reducible exact cD _ _))))
    refine wpQuiet_nil ?_
    intro wqA hqA
    have HQA := Lib.hid (HS7.out.step hqA)
    have HGA := Lib.hid (HG7.out.step hqA)
    have HAD := Lib.hid (addR_any (addP (addP [] (debC c o) (-o.c)) (creC o) o.c) _ (debC c x) x.c wqA HQA.out.s (Nat.le_trans HM7.out.2 (by decide)) (debC_size HK.out HXC.out.veh) (HM7.out.amt (by decide)) (by omega))
    have HMA := Lib.hid (HM7.out.add (a := (debC c x)) (n := x.c) (by omega) (by omega))
    clear hqA cD b6 LDX
    go_wp2_with (fail)
    with_reducible refine HAD.out.mono ?_
    clear HAD
    rintro r wA ⟨⟨vA, rfl, hnA⟩, hbA⟩
    have HSA := Lib.hid (HQA.out.put hbA hnA.sl')
    have HHA := Lib.hid (HGA.out.step hbA)
    clear HGA
    have HGA := HHA
    clear HHA
    obtain ⟨aA, cA, rfl, -⟩ := hnA.form
    clear hnA hbA HQA
    clear LDC
    have LDC := fun d os => ldc_re HSA.out.y.b0 HA.out.size d os
    have LDX := fun d os => ldx_re HGA.out d os
    have c6 := (blk7 HGA.out).2.2.2.2.2.2.1
    have b6 := cell_regrown c6
    clear c6
    have cD := fun d os => Calls.regrown_of (credit_any x (.slice xa x.ls.length xc) (grow (redrawn wA d) os) HXC.out.sys)
    go_upto_region 10 with (fail)
    refine wp_region_below_tail 6 (by kernel_rfl) (by kernel_rfl) ?_
    simp only [List.take_succ_cons, List.take_zero, List.drop_succ_cons, List.drop_zero]
    quiet_step (fail)
    refine wpQuiet_step (fun K hK => ?_)
    rw [if_pos (show _ = true by kernel_rfl)]
    refine quiet_loadA (A := #[.string x.key, .string x.veh, .string x.sys, .int .i64 x.cls, .int .i64 x.tm, .slice xa x.ls.length xc, .int .i64 x.c]) rfl Tryz.isAgg49 Tryz.sizeOf49 rfl (fun w' hw' => ?_) (hK _ ?_)
    · obtain ⟨⟨nq, osq⟩, rfl⟩ := hw'
      exact LDX nq osq
    clear hK K
    (repeat (quiet_step (first | (go_at_call 39; with_reducible exact cD _ _))))
    refine wpQuiet_nil ?_
    intro wqB hqB
    have HQB := Lib.hid (HSA.out.step hqB)
    have HGB := Lib.hid (HGA.out.step hqB)
    have HAD := Lib.hid (addR_any (addP (addP (addP [] (debC c o) (-o.c)) (creC o) o.c) (debC c x) x.c) _ (creC x) (-x.c) wqB HQB.out.s (Nat.le_trans HMA.out.2 (by decide)) (creC_size HXC.out.sys) (HMA.out.amt (by decide)) (by omega))
    have HMB := Lib.hid (HMA.out.add (a := (creC x)) (n := (-x.c)) (by omega) (by omega))
    clear hqB cD b6 LDX
    go_wp2_with (fail)
    with_reducible refine HAD.out.mono ?_
    clear HAD
    rintro r wB ⟨⟨vB, rfl, hnB⟩, hbB⟩
    have HSB := Lib.hid (HQB.out.put hbB hnB.sl')
    have HHB := Lib.hid (HGB.out.step hbB)
    clear HGB
    have HGB := HHB
    clear HHB
    obtain ⟨aB, cB, rfl, -⟩ := hnB.form
    clear hnB hbB HQB
    clear LDC HG7 HGA HGB HS7 HSA HM7 HMA
    generalize addP (addP (addP (addP [] (debC c o) (-o.c)) (creC o) o.c) (debC c x) x.c) (creC x) (-x.c) = pl at HSB HMB HPO ⊢
    have hvl : (verN es x.key : Int) ≤ 900 := by have h1 := HBK.out.len; have h2 := ver_le (l := es) (s := x.key); simp only at h1; omega
    have hv0 : 0 ≤ (verN es x.key : Int) := by omega
    have HVE := Lib.hid (show ∀ W, Below w.heap.size w W → Calls Tryz.prog 76 #[.agg #[.slice ae es.length ce], .string x.key] W fun e w' => e = .returned (.int .i64 (verN es x.key)) ∧ Below W.heap.size W w' from fun W hW => versionR_any es (.slice ae es.length ce) x.key W ((ltR HE.out).step hW) (by have := HXC.out.key; omega) (by have := HBK.out.len; simp only at this; omega))
    have hke := HXC.out.key
    have HAS := Lib.hid (fun es' z => @ap_s c ⟨es, ds⟩ x HZ.out es' z)
    simp only at HAS
    generalize (verN es x.key : Int) = vn at HVE hvl hv0 HAS
    have hvi : i64ok vn := by unfold i64ok; omega
    have HFM := Lib.hid (FormatR_any vn hvi)
    have hfz := fmt_size hvi
    have HKS := Lib.hid (keyC_size hke hvi)
    have HKE := Lib.hid (show keyC x.key vn = x.key ++ ⟨#[35]⟩ ++ fmtS vn from rfl)
    clear hvi
    generalize keyC x.key vn = kk at HKS HKE HAS
    generalize fmtS vn = fm at *
    obtain ⟨⟨es9, z9⟩, hen⟩ : ∃ r, enterL es kk x.tm (postsA c ds x) = r := ⟨_, rfl⟩
    rw [HPO.out] at hen
    have HEQ := Lib.hid hen
    have HEN := Lib.hid (show ∀ W, Below wB.heap.size wB W → Calls Tryz.prog 75 #[.agg #[.slice ae es.length ce, .slice ad ds.length cd], .string (x.key ++ ⟨#[35]⟩ ++ fm), .int .i64 x.tm, .slice aB pl.length cB] W (EntRE (fun k => (k < w.heap.size ∧ R k) ∨ W.heap.size ≤ k) W (.slice ad ds.length cd) es (es9, z9)) from fun W hW => by
      rw [← hen, ← HKE.out]
      exact enterR_any _ es (.slice ae es.length ce) ad ds.length cd kk x.tm pl (.slice aB pl.length cB) W (fun k hk => .inr hk) (HE.out.keep (fun q h => ⟨.inl ⟨h.2, h.1⟩, Nat.lt_of_lt_of_le h.2 (Nat.le_trans HSB.out.b.size hW.size)⟩) (fun q h => (bl_trans HSB.out.b hW).block q h.2)) (HSB.out.s.step hW) (Nat.le_trans HKS.out (by decide)) (by have := HCF.out; unfold i64ok; omega) HBK.out.es (by have := HBK.out.len; simp only at this; omega) (HPO.out ▸ postsA_len c ds x))
    unfold EntRE at HEN
    clear hen
    have hbz : w.heap.size ≤ wB.heap.size := HSB.out.b.size
    have HDO := Lib.hid (show ∀ (W W' : World), Below wB.heap.size wB W → Below W.heap.size W W' → SlIs (tChg eL) (fun k => ((k < w.heap.size ∧ R k) ∨ W.heap.size ≤ k) ∧ k < W'.heap.size) W' (.slice ad ds.length cd) ds from fun W W' h1 h2 => HD.out.keep (fun q h => ⟨.inl ⟨h.2, h.1⟩, Nat.lt_of_lt_of_le h.2 (Nat.le_trans hbz (Nat.le_trans h1.size h2.size))⟩) (fun q h => (bl_trans (bl_trans HSB.out.b h1) h2).block q h.2))
    have HL0 := Lib.hid (show ∀ w', Below wB.heap.size wB w' → w'.cell? ⟨w.heap.size + 1 + 1, 0, none⟩ = some (.string x.key) from fun w' h => (blk7 (HSB.out.step h).y.b2).1)
    have HL4 := Lib.hid (show ∀ w', Below wB.heap.size wB w' → w'.cell? ⟨w.heap.size + 1 + 1, 4, none⟩ = some (.int .i64 x.tm) from fun w' h => (blk7 (HSB.out.step h).y.b2).2.2.2.2.1)
    have HLB := Lib.hid (show ∀ w', Below wB.heap.size wB w' → w'.cell? ⟨w.heap.size + 1, 0, none⟩ = some (.slice ae es.length ce) ∧ w'.cell? ⟨w.heap.size + 1, 1, none⟩ = some (.slice ad ds.length cd) from fun w' h => ⟨(blk2 (HSB.out.step h).y.b1).1, (blk2 (HSB.out.step h).y.b1).2.1⟩)
    have HVB := Lib.hid (fun W (h : Below wB.heap.size wB W) => HVE.out W (bl_trans HSB.out.b h))
    have z1 : ¬ (9223372036854775807 < x.key.size + 1) := by omega
    have z2 : ¬ (9223372036854775807 < x.key.size + 1 + fm.size) := by omega
    have hPB := Lib.hid (show ∀ k, (k < w.heap.size ∧ R k) → k < wB.heap.size from fun k h => by omega)
    clear HVE hfz hvl hv0
    have HW := Lib.hid (Below.drew (Below.refl wB.heap.size wB))
    go_upto_region 11 with (fail)
    go_cut [12, 13] (fun yv fv wx => ∃ (gy : Nat) (v9 : Value), yv = .pointer (some ⟨gy, 0, none⟩) ∧ fv = .int .i64 z9 ∧ ER wB (fun k => k < w.heap.size ∧ R k) gy v9 (.slice ad ds.length cd) (if z9 = 0 then es9 else es) ds wx)
    case first =>
      refine wp_region_D (fun j => if j < 21 then 0 else if j < 21 then 1 else 2) (fun w' => Below wB.heap.size wB w') (by kernel_rfl) (HW.out) (fun hHeld => ?_)
      refine wpD_take (i := 0) (v := ?_) rfl (by kernel_rfl) (fun _ _ _ h => h) (Or.inl ⟨by kernel_rfl, ?_⟩) (by assumption) ?_
      rotate_left
      focus (intro w9 hS9; obtain ⟨z0, z1⟩ := HLB.out w9 hS9; clear hS9; go_simp; (try with_reducible rfl))
      (try simp only [List.getElem_toArray, List.getElem_cons_succ, List.getElem_cons_zero])
      (try simp only [Act.put])
      (try simp only [List.setIfInBounds_toArray])
      (repeat (first | simp only [List.set_cons_succ] | simp only [List.set_cons_zero]))
      refine wpD_take (i := 1) (v := ?_) rfl (by kernel_rfl) (fun _ _ _ h => h) (Or.inl ⟨by kernel_rfl, ?_⟩) (by assumption) ?_
      rotate_left
      focus (intro w9 hS9; clear hS9; go_simp; (try with_reducible rfl))
      (try simp only [List.getElem_toArray, List.getElem_cons_succ, List.getElem_cons_zero])
      (try simp only [Act.put])
      (try simp only [List.setIfInBounds_toArray])
      (repeat (first | simp only [List.set_cons_succ] | simp only [List.set_cons_zero]))
      refine wpD_take (i := 2) (v := ?_) rfl (by kernel_rfl) (fun _ _ _ h => h) (Or.inl ⟨by kernel_rfl, ?_⟩) (by assumption) ?_
      rotate_left
      focus (intro w9 hS9; have z0 := HL0.out w9 hS9; clear hS9; go_simp; (try with_reducible rfl))
      (try simp only [List.getElem_toArray, List.getElem_cons_succ, List.getElem_cons_zero])
      (try simp only [Act.put])
      (try simp only [List.setIfInBounds_toArray])
      (repeat (first | simp only [List.set_cons_succ] | simp only [List.set_cons_zero]))
      refine wpD_take (i := 3) (v := ?_) rfl (by kernel_rfl) (fun _ _ _ h => h) (Or.inl ⟨by kernel_rfl, ?_⟩) (by assumption) ?_
      rotate_left
      focus (intro w9 hS9; clear hS9; go_simp; (try with_reducible rfl))
      (try simp only [List.getElem_toArray, List.getElem_cons_succ, List.getElem_cons_zero])
      (try simp only [Act.put])
      (try simp only [List.setIfInBounds_toArray])
      (repeat (first | simp only [List.set_cons_succ] | simp only [List.set_cons_zero]))
      refine wpD_take (i := 4) (v := ?_) rfl (by kernel_rfl) (fun _ _ _ h => h) (Or.inl ⟨by kernel_rfl, ?_⟩) (by assumption) ?_
      rotate_left
      focus (intro w9 hS9; clear hS9; go_simp; (try with_reducible rfl))
      (try simp only [List.getElem_toArray, List.getElem_cons_succ, List.getElem_cons_zero])
      (try simp only [Act.put])
      (try simp only [List.setIfInBounds_toArray])
      (repeat (first | simp only [List.set_cons_succ] | simp only [List.set_cons_zero]))
      refine wpD_take (i := 5) (v := ?_) rfl (by kernel_rfl) (fun _ _ _ h => h) (Or.inl ⟨by kernel_rfl, ?_⟩) (by assumption) ?_
      rotate_left
      focus (intro w9 hS9; obtain ⟨z0, z1⟩ := HLB.out w9 hS9; clear hS9; go_simp; (try with_reducible rfl))
      (try simp only [List.getElem_toArray, List.getElem_cons_succ, List.getElem_cons_zero])
      (try simp only [Act.put])
      (try simp only [List.setIfInBounds_toArray])
      (repeat (first | simp only [List.set_cons_succ] | simp only [List.set_cons_zero]))
      refine wpD_take (i := 6) (v := ?_) rfl (by kernel_rfl) (fun _ _ _ h => h) (Or.inl ⟨by kernel_rfl, ?_⟩) (by assumption) ?_
      rotate_left
      focus (intro w9 hS9; clear hS9; go_simp; (try with_reducible rfl))
      (try simp only [List.getElem_toArray, List.getElem_cons_succ, List.getElem_cons_zero])
      (try simp only [Act.put])
      (try simp only [List.setIfInBounds_toArray])
      (repeat (first | simp only [List.set_cons_succ] | simp only [List.set_cons_zero]))
      refine wpD_take (i := 7) (v := ?_) rfl (by kernel_rfl) (fun _ _ _ h => h) (Or.inl ⟨by kernel_rfl, ?_⟩) (by assumption) ?_
      rotate_left
      focus (intro w9 hS9; have z0 := HL0.out w9 hS9; clear hS9; go_simp; (try with_reducible rfl))
      (try simp only [List.getElem_toArray, List.getElem_cons_succ, List.getElem_cons_zero])
      (try simp only [Act.put])
      (try simp only [List.setIfInBounds_toArray])
      (repeat (first | simp only [List.set_cons_succ] | simp only [List.set_cons_zero]))
      refine wpD_take (i := 11) (v := ?_) rfl (by kernel_rfl) (fun _ _ _ h => h) (Or.inl ⟨by kernel_rfl, ?_⟩) (by assumption) ?_
      rotate_left
      focus (intro w9 hS9; clear hS9; go_simp; (try with_reducible rfl))
      (try simp only [List.getElem_toArray, List.getElem_cons_succ, List.getElem_cons_zero])
      (try simp only [Act.put])
      (try simp only [List.setIfInBounds_toArray])
      (repeat (first | simp only [List.set_cons_succ] | simp only [List.set_cons_zero]))
      refine wpD_take (i := 12) (v := ?_) rfl (by kernel_rfl) (fun _ _ _ h => h) (Or.inl ⟨by kernel_rfl, ?_⟩) (by assumption) ?_
      rotate_left
      focus (intro w9 hS9; have z0 := HL4.out w9 hS9; clear hS9; go_simp; (try with_reducible rfl))
      (try simp only [List.getElem_toArray, List.getElem_cons_succ, List.getElem_cons_zero])
      (try simp only [Act.put])
      (try simp only [List.setIfInBounds_toArray])
      (repeat (first | simp only [List.set_cons_succ] | simp only [List.set_cons_zero]))
      refine wpD_take (i := 13) (v := ?_) rfl (by kernel_rfl) (fun _ _ _ h => h) (Or.inl ⟨by kernel_rfl, ?_⟩) (by assumption) ?_
      rotate_left
      focus (intro w9 hS9; clear hS9; go_simp; (try with_reducible rfl))
      (try simp only [List.getElem_toArray, List.getElem_cons_succ, List.getElem_cons_zero])
      (try simp only [Act.put])
      (try simp only [List.setIfInBounds_toArray])
      (repeat (first | simp only [List.set_cons_succ] | simp only [List.set_cons_zero]))
      refine wpD_ready (rs := [8, 18]) (by kernel_rfl) (by kernel_rfl) ?_
      refine AllReadyD.cons rfl (fun K hK => ?_) (AllReadyD.cons rfl (fun K hK => ?_) AllReadyD.nil)
      · rw [if_pos (show _ = true by kernel_rfl)]
        go_simp
        with_reducible refine (HVB.out _ HW.out).mono ?_
        rintro r w7 ⟨rfl, hbv⟩
        have HV := Lib.hid (bl_trans HW.out hbv)
        skip
        clear hbv HW
        have HW := HV
        clear HV
        clear hHeld
        refine hK.out _ _ ⟨fun _ => HW.out, fun h => absurd h (by decide)⟩ (fun hHeld0 => ?_)
        have hHeld := hHeld0.1 rfl
        clear hHeld0 hK K
        refine wpD_ready (rs := [9, 18]) (by kernel_rfl) (by kernel_rfl) ?_
        refine AllReadyD.cons rfl (fun K hK => ?_) (AllReadyD.cons rfl (fun K hK => ?_) AllReadyD.nil)
        · rw [if_pos (show _ = true by kernel_rfl)]
          go_simp
          with_reducible refine (HFM.out _).mono ?_
          rintro r w8 ⟨rfl, rfl⟩
          clear hHeld
          refine hK.out _ _ ⟨fun _ => HW.out, fun h => absurd h (by decide)⟩ (fun hHeld0 => ?_)
          have hHeld := hHeld0.1 rfl
          clear hHeld0 hK K
          refine wpD_take (i := 10) (v := ?_) rfl (by kernel_rfl) (fun _ _ _ h => h) (Or.inl ⟨by kernel_rfl, ?_⟩) (by assumption) ?_
          rotate_left
          focus (intro w9 hS9; clear hS9; go_simp; (try with_reducible rfl))
          (try simp only [List.getElem_toArray, List.getElem_cons_succ, List.getElem_cons_zero])
          (try simp only [Act.put])
          (try simp only [List.setIfInBounds_toArray])
          (repeat (first | simp only [List.set_cons_succ] | simp only [List.set_cons_zero]))
          refine wpD_ready (rs := [14, 18]) (by kernel_rfl) (by kernel_rfl) ?_
          refine AllReadyD.cons rfl (fun K hK => ?_) (AllReadyD.cons rfl (fun K hK => ?_) AllReadyD.nil)
          · rw [if_pos (show _ = true by kernel_rfl)]
            go_simp
            with_reducible refine (HEN.out _ HW.out).mono ?_
            rintro r w9 ⟨⟨v9, rfl, hs9⟩, hbe⟩
            have HS9 := Lib.hid hs9
            have HD9 := Lib.hid (HDO.out _ _ HW.out hbe)
            have HV := Lib.hid (bl_trans HW.out hbe)
            have HWQ := HW
            obtain ⟨a9, n9, c9, hv9⟩ : ∃ a n c, v9 = .slice a n c := by
              obtain ⟨a, c, _, _, e, -⟩ := hs9
              exact ⟨a, _, c, e⟩
            subst hv9
            skip
            clear hbe HW hs9
            have HW := HV
            clear HV
            clear hHeld
            refine hK.out _ _ ⟨fun _ => HW.out, fun h => absurd h (by decide)⟩ (fun hHeld0 => ?_)
            have hHeld := hHeld0.1 rfl
            clear hHeld0 hK K
            refine wpD_take (i := 15) (v := ?_) rfl (by kernel_rfl) (fun _ _ _ h => h) (Or.inl ⟨by kernel_rfl, ?_⟩) (by assumption) ?_
            rotate_left
            focus (intro w9 hS9; clear hS9; go_simp; (try with_reducible rfl))
            (try simp only [List.getElem_toArray, List.getElem_cons_succ, List.getElem_cons_zero])
            (try simp only [Act.put])
            (try simp only [List.setIfInBounds_toArray])
            (repeat (first | simp only [List.set_cons_succ] | simp only [List.set_cons_zero]))
            refine wpD_take (i := 16) (v := ?_) rfl (by kernel_rfl) (fun _ _ _ h => h) (Or.inl ⟨by kernel_rfl, ?_⟩) (by assumption) ?_
            rotate_left
            focus (intro w9 hS9; clear hS9; go_simp; (try with_reducible rfl))
            (try simp only [List.getElem_toArray, List.getElem_cons_succ, List.getElem_cons_zero])
            (try simp only [Act.put])
            (try simp only [List.setIfInBounds_toArray])
            (repeat (first | simp only [List.set_cons_succ] | simp only [List.set_cons_zero]))
            refine wpD_take (i := 17) (v := ?_) rfl (by kernel_rfl) (fun _ _ _ h => h) (Or.inl ⟨by kernel_rfl, ?_⟩) (by assumption) ?_
            rotate_left
            focus (intro w9 hS9; clear hS9; go_simp; (try with_reducible rfl))
            (try simp only [List.getElem_toArray, List.getElem_cons_succ, List.getElem_cons_zero])
            (try simp only [Act.put])
            (try simp only [List.setIfInBounds_toArray])
            (repeat (first | simp only [List.set_cons_succ] | simp only [List.set_cons_zero]))
            refine wpD_ready (rs := [18]) (by kernel_rfl) (by kernel_rfl) ?_
            refine AllReadyD.cons rfl (fun K hK => ?_) AllReadyD.nil
            rw [if_pos (show _ = true by kernel_rfl)]
            go_simp
            clear hHeld
            refine hK.out _ _ ⟨fun _ => bl_alloc HW.out _, fun h => absurd h (by decide)⟩ (fun hHeld0 => ?_)
            have hHeld := hHeld0.1 rfl
            clear hHeld0 hK K
            refine wpD_ready (rs := [19]) (by kernel_rfl) (by kernel_rfl) ?_
            refine AllReadyD.cons rfl (fun K hK => ?_) AllReadyD.nil
            rw [if_pos (show _ = true by kernel_rfl)]
            go_simp
            clear hHeld
            refine hK.out _ _ ⟨fun _ => bl_alloc HW.out _, fun h => absurd h (by decide)⟩ (fun hHeld0 => ?_)
            have hHeld := hHeld0.1 rfl
            clear hHeld0 hK K
            refine wpD_ready (rs := [20]) (by kernel_rfl) (by kernel_rfl) ?_
            refine AllReadyD.cons rfl (fun K hK => ?_) AllReadyD.nil
            rw [if_pos (show _ = true by kernel_rfl)]
            go_simp
            clear hHeld
            refine hK.out _ _ ⟨fun _ => bl_alloc HW.out _, fun h => absurd h (by decide)⟩ (fun hHeld0 => ?_)
            have hHeld := hHeld0.1 rfl
            clear hHeld0 hK K
            refine wpD_done (by kernel_rfl) ?_
            go_wp2_with (fail)
            go_meet
            exact ⟨_, _, rfl, rfl, ER.mk_alloc hPB.out HW.out HWQ.out.size HS9.out HD9.out⟩
          · rw [if_pos (show _ = true by kernel_rfl)]
            go_simp
            clear hHeld
            refine hK.out _ _ ⟨fun _ => bl_alloc HW.out _, fun h => absurd h (by decide)⟩ (fun hHeld0 => ?_)
            have hHeld := hHeld0.1 rfl
            clear hHeld0 hK K
            have HYB := Lib.hid (show BB (w7).heap.size (.slice none 0 0) (.slice none 0 0) _ from heap_alloc_new (w7) (.cells #[.slice none 0 0, .slice none 0 0] 70))
            have HV := Lib.hid (bl_alloc HW.out (.cells #[.slice none 0 0, .slice none 0 0] 70))
            have hgy : wB.heap.size ≤ (w7).heap.size := HW.out.size
            clear HW
            have HW := HV
            clear HV
            generalize (w7).alloc (.cells #[.slice none 0 0, .slice none 0 0] 70) = wy at HYB HW hHeld ⊢
            generalize (w7).heap.size = gy at HYB hgy ⊢
            refine wpD_ready (rs := [14]) (by kernel_rfl) (by kernel_rfl) ?_
            refine AllReadyD.cons rfl (fun K hK => ?_) AllReadyD.nil
            rw [if_pos (show _ = true by kernel_rfl)]
            go_simp
            with_reducible refine (HEN.out _ HW.out).mono ?_
            rintro r w9 ⟨⟨v9, rfl, hs9⟩, hbe⟩
            have HS9 := Lib.hid hs9
            have HD9 := Lib.hid (HDO.out _ _ HW.out hbe)
            have HV := Lib.hid (bl_trans HW.out hbe)
            have HWQ := HW
            obtain ⟨a9, n9, c9, hv9⟩ : ∃ a n c, v9 = .slice a n c := by
              obtain ⟨a, c, _, _, e, -⟩ := hs9
              exact ⟨a, _, c, e⟩
            subst hv9
            have hgq := lt_of_heap HYB.out; have HYC := Lib.hid ((hbe.block _ hgq).trans HYB.out); clear HYB; have HYB := HYC; clear HYC
            clear hbe HW hs9
            have HW := HV
            clear HV
            clear hHeld
            refine hK.out _ _ ⟨fun _ => HW.out, fun h => absurd h (by decide)⟩ (fun hHeld0 => ?_)
            have hHeld := hHeld0.1 rfl
            clear hHeld0 hK K
            refine wpD_take (i := 15) (v := ?_) rfl (by kernel_rfl) (fun _ _ _ h => h) (Or.inl ⟨by kernel_rfl, ?_⟩) (by assumption) ?_
            rotate_left
            focus (intro w9 hS9; clear hS9; go_simp; (try with_reducible rfl))
            (try simp only [List.getElem_toArray, List.getElem_cons_succ, List.getElem_cons_zero])
            (try simp only [Act.put])
            (try simp only [List.setIfInBounds_toArray])
            (repeat (first | simp only [List.set_cons_succ] | simp only [List.set_cons_zero]))
            refine wpD_take (i := 16) (v := ?_) rfl (by kernel_rfl) (fun _ _ _ h => h) (Or.inl ⟨by kernel_rfl, ?_⟩) (by assumption) ?_
            rotate_left
            focus (intro w9 hS9; clear hS9; go_simp; (try with_reducible rfl))
            (try simp only [List.getElem_toArray, List.getElem_cons_succ, List.getElem_cons_zero])
            (try simp only [Act.put])
            (try simp only [List.setIfInBounds_toArray])
            (repeat (first | simp only [List.set_cons_succ] | simp only [List.set_cons_zero]))
            refine wpD_take (i := 17) (v := ?_) rfl (by kernel_rfl) (fun _ _ _ h => h) (Or.inl ⟨by kernel_rfl, ?_⟩) (by assumption) ?_
            rotate_left
            focus (intro w9 hS9; clear hS9; go_simp; (try with_reducible rfl))
            (try simp only [List.getElem_toArray, List.getElem_cons_succ, List.getElem_cons_zero])
            (try simp only [Act.put])
            (try simp only [List.setIfInBounds_toArray])
            (repeat (first | simp only [List.set_cons_succ] | simp only [List.set_cons_zero]))
            obtain ⟨y0, y1, yf⟩ := blk2 HYB.out
            have hgl := lt_of_heap HYB.out
            refine wpD_ready (rs := [19]) (by kernel_rfl) (by kernel_rfl) ?_
            refine AllReadyD.cons rfl (fun K hK => ?_) AllReadyD.nil
            rw [if_pos (show _ = true by kernel_rfl)]
            go_simp
            clear hHeld
            refine hK.out _ _ ⟨fun _ => bl_set (bl_set HW.out _ hgy) _ hgy, fun h => absurd h (by decide)⟩ (fun hHeld0 => ?_)
            have hHeld := hHeld0.1 rfl
            clear hHeld0 hK K
            refine wpD_ready (rs := [20]) (by kernel_rfl) (by kernel_rfl) ?_
            refine AllReadyD.cons rfl (fun K hK => ?_) AllReadyD.nil
            rw [if_pos (show _ = true by kernel_rfl)]
            go_simp
            clear hHeld
            refine hK.out _ _ ⟨fun _ => bl_set (bl_set HW.out _ hgy) _ hgy, fun h => absurd h (by decide)⟩ (fun hHeld0 => ?_)
            have hHeld := hHeld0.1 rfl
            clear hHeld0 hK K
            refine wpD_done (by kernel_rfl) ?_
            go_wp2_with (fail)
            go_meet
            exact ⟨_, _, rfl, rfl, ER.mk_set hPB.out HW.out HWQ.out.size hgy hgq HS9.out HD9.out HYB.out⟩
        · rw [if_pos (show _ = true by kernel_rfl)]
          go_simp
          clear hHeld
          refine hK.out _ _ ⟨fun _ => bl_alloc HW.out _, fun h => absurd h (by decide)⟩ (fun hHeld0 => ?_)
          have hHeld := hHeld0.1 rfl
          clear hHeld0 hK K
          have HYB := Lib.hid (show BB (w7).heap.size (.slice none 0 0) (.slice none 0 0) _ from heap_alloc_new (w7) (.cells #[.slice none 0 0, .slice none 0 0] 70))
          have HV := Lib.hid (bl_alloc HW.out (.cells #[.slice none 0 0, .slice none 0 0] 70))
          have hgy : wB.heap.size ≤ (w7).heap.size := HW.out.size
          clear HW
          have HW := HV
          clear HV
          generalize (w7).alloc (.cells #[.slice none 0 0, .slice none 0 0] 70) = wy at HYB HW hHeld ⊢
          generalize (w7).heap.size = gy at HYB hgy ⊢
          refine wpD_ready (rs := [9]) (by kernel_rfl) (by kernel_rfl) ?_
          refine AllReadyD.cons rfl (fun K hK => ?_) AllReadyD.nil
          rw [if_pos (show _ = true by kernel_rfl)]
          go_simp
          with_reducible refine (HFM.out _).mono ?_
          rintro r w8 ⟨rfl, rfl⟩
          clear hHeld
          refine hK.out _ _ ⟨fun _ => HW.out, fun h => absurd h (by decide)⟩ (fun hHeld0 => ?_)
          have hHeld := hHeld0.1 rfl
          clear hHeld0 hK K
          refine wpD_take (i := 10) (v := ?_) rfl (by kernel_rfl) (fun _ _ _ h => h) (Or.inl ⟨by kernel_rfl, ?_⟩) (by assumption) ?_
          rotate_left
          focus (intro w9 hS9; clear hS9; go_simp; (try with_reducible rfl))
          (try simp only [List.getElem_toArray, List.getElem_cons_succ, List.getElem_cons_zero])
          (try simp only [Act.put])
          (try simp only [List.setIfInBounds_toArray])
          (repeat (first | simp only [List.set_cons_succ] | simp only [List.set_cons_zero]))
          refine wpD_ready (rs := [14]) (by kernel_rfl) (by kernel_rfl) ?_
          refine AllReadyD.cons rfl (fun K hK => ?_) AllReadyD.nil
          rw [if_pos (show _ = true by kernel_rfl)]
          go_simp
          with_reducible refine (HEN.out _ HW.out).mono ?_
          rintro r w9 ⟨⟨v9, rfl, hs9⟩, hbe⟩
          have HS9 := Lib.hid hs9
          have HD9 := Lib.hid (HDO.out _ _ HW.out hbe)
          have HV := Lib.hid (bl_trans HW.out hbe)
          have HWQ := HW
          obtain ⟨a9, n9, c9, hv9⟩ : ∃ a n c, v9 = .slice a n c := by
            obtain ⟨a, c, _, _, e, -⟩ := hs9
            exact ⟨a, _, c, e⟩
          subst hv9
          have hgq := lt_of_heap HYB.out; have HYC := Lib.hid ((hbe.block _ hgq).trans HYB.out); clear HYB; have HYB := HYC; clear HYC
          clear hbe HW hs9
          have HW := HV
          clear HV
          clear hHeld
          refine hK.out _ _ ⟨fun _ => HW.out, fun h => absurd h (by decide)⟩ (fun hHeld0 => ?_)
          have hHeld := hHeld0.1 rfl
          clear hHeld0 hK K
          refine wpD_take (i := 15) (v := ?_) rfl (by kernel_rfl) (fun _ _ _ h => h) (Or.inl ⟨by kernel_rfl, ?_⟩) (by assumption) ?_
          rotate_left
          focus (intro w9 hS9; clear hS9; go_simp; (try with_reducible rfl))
          (try simp only [List.getElem_toArray, List.getElem_cons_succ, List.getElem_cons_zero])
          (try simp only [Act.put])
          (try simp only [List.setIfInBounds_toArray])
          (repeat (first | simp only [List.set_cons_succ] | simp only [List.set_cons_zero]))
          refine wpD_take (i := 16) (v := ?_) rfl (by kernel_rfl) (fun _ _ _ h => h) (Or.inl ⟨by kernel_rfl, ?_⟩) (by assumption) ?_
          rotate_left
          focus (intro w9 hS9; clear hS9; go_simp; (try with_reducible rfl))
          (try simp only [List.getElem_toArray, List.getElem_cons_succ, List.getElem_cons_zero])
          (try simp only [Act.put])
          (try simp only [List.setIfInBounds_toArray])
          (repeat (first | simp only [List.set_cons_succ] | simp only [List.set_cons_zero]))
          refine wpD_take (i := 17) (v := ?_) rfl (by kernel_rfl) (fun _ _ _ h => h) (Or.inl ⟨by kernel_rfl, ?_⟩) (by assumption) ?_
          rotate_left
          focus (intro w9 hS9; clear hS9; go_simp; (try with_reducible rfl))
          (try simp only [List.getElem_toArray, List.getElem_cons_succ, List.getElem_cons_zero])
          (try simp only [Act.put])
          (try simp only [List.setIfInBounds_toArray])
          (repeat (first | simp only [List.set_cons_succ] | simp only [List.set_cons_zero]))
          obtain ⟨y0, y1, yf⟩ := blk2 HYB.out
          have hgl := lt_of_heap HYB.out
          refine wpD_ready (rs := [19]) (by kernel_rfl) (by kernel_rfl) ?_
          refine AllReadyD.cons rfl (fun K hK => ?_) AllReadyD.nil
          rw [if_pos (show _ = true by kernel_rfl)]
          go_simp
          clear hHeld
          refine hK.out _ _ ⟨fun _ => bl_set (bl_set HW.out _ hgy) _ hgy, fun h => absurd h (by decide)⟩ (fun hHeld0 => ?_)
          have hHeld := hHeld0.1 rfl
          clear hHeld0 hK K
          refine wpD_ready (rs := [20]) (by kernel_rfl) (by kernel_rfl) ?_
          refine AllReadyD.cons rfl (fun K hK => ?_) AllReadyD.nil
          rw [if_pos (show _ = true by kernel_rfl)]
          go_simp
          clear hHeld
          refine hK.out _ _ ⟨fun _ => bl_set (bl_set HW.out _ hgy) _ hgy, fun h => absurd h (by decide)⟩ (fun hHeld0 => ?_)
          have hHeld := hHeld0.1 rfl
          clear hHeld0 hK K
          refine wpD_done (by kernel_rfl) ?_
          go_wp2_with (fail)
          go_meet
          exact ⟨_, _, rfl, rfl, ER.mk_set hPB.out HW.out HWQ.out.size hgy hgq HS9.out HD9.out HYB.out⟩
      · rw [if_pos (show _ = true by kernel_rfl)]
        go_simp
        clear hHeld
        refine hK.out _ _ ⟨fun _ => bl_alloc HW.out _, fun h => absurd h (by decide)⟩ (fun hHeld0 => ?_)
        have hHeld := hHeld0.1 rfl
        clear hHeld0 hK K
        have HYB := Lib.hid (show BB wB.heap.size (.slice none 0 0) (.slice none 0 0) (wB.alloc (.cells #[.slice none 0 0, .slice none 0 0] 70)).drew from heap_alloc_new wB (.cells #[.slice none 0 0, .slice none 0 0] 70))
        have HV := Lib.hid (Below.drew (bl_alloc (Below.refl wB.heap.size wB) (.cells #[.slice none 0 0, .slice none 0 0] 70)))
        have hgy : wB.heap.size ≤ wB.heap.size := Nat.le_refl _
        clear HW
        have HW := HV
        clear HV
        have hHeld : Below wB.heap.size wB (wB.alloc (.cells #[.slice none 0 0, .slice none 0 0] 70)).drew := HW.out
        generalize (wB.alloc (.cells #[.slice none 0 0, .slice none 0 0] 70)).drew = wy at HYB HW hHeld ⊢
        refine wpD_ready (rs := [8]) (by kernel_rfl) (by kernel_rfl) ?_
        refine AllReadyD.cons rfl (fun K hK => ?_) AllReadyD.nil
        rw [if_pos (show _ = true by kernel_rfl)]
        go_simp
        with_reducible refine (HVB.out _ HW.out).mono ?_
        rintro r w7 ⟨rfl, hbv⟩
        have HV := Lib.hid (bl_trans HW.out hbv)
        have hgq := lt_of_heap HYB.out; have HYC := Lib.hid ((hbv.block _ hgq).trans HYB.out); clear HYB; have HYB := HYC; clear HYC
        clear hbv HW
        have HW := HV
        clear HV
        clear hHeld
        refine hK.out _ _ ⟨fun _ => HW.out, fun h => absurd h (by decide)⟩ (fun hHeld0 => ?_)
        have hHeld := hHeld0.1 rfl
        clear hHeld0 hK K
        refine wpD_ready (rs := [9]) (by kernel_rfl) (by kernel_rfl) ?_
        refine AllReadyD.cons rfl (fun K hK => ?_) AllReadyD.nil
        rw [if_pos (show _ = true by kernel_rfl)]
        go_simp
        with_reducible refine (HFM.out _).mono ?_
        rintro r w8 ⟨rfl, rfl⟩
        clear hHeld
        refine hK.out _ _ ⟨fun _ => HW.out, fun h => absurd h (by decide)⟩ (fun hHeld0 => ?_)
        have hHeld := hHeld0.1 rfl
        clear hHeld0 hK K
        refine wpD_take (i := 10) (v := ?_) rfl (by kernel_rfl) (fun _ _ _ h => h) (Or.inl ⟨by kernel_rfl, ?_⟩) (by assumption) ?_
        rotate_left
        focus (intro w9 hS9; clear hS9; go_simp; (try with_reducible rfl))
        (try simp only [List.getElem_toArray, List.getElem_cons_succ, List.getElem_cons_zero])
        (try simp only [Act.put])
        (try simp only [List.setIfInBounds_toArray])
        (repeat (first | simp only [List.set_cons_succ] | simp only [List.set_cons_zero]))
        refine wpD_ready (rs := [14]) (by kernel_rfl) (by kernel_rfl) ?_
        refine AllReadyD.cons rfl (fun K hK => ?_) AllReadyD.nil
        rw [if_pos (show _ = true by kernel_rfl)]
        go_simp
        with_reducible refine (HEN.out _ HW.out).mono ?_
        rintro r w9 ⟨⟨v9, rfl, hs9⟩, hbe⟩
        have HS9 := Lib.hid hs9
        have HD9 := Lib.hid (HDO.out _ _ HW.out hbe)
        have HV := Lib.hid (bl_trans HW.out hbe)
        have HWQ := HW
        obtain ⟨a9, n9, c9, hv9⟩ : ∃ a n c, v9 = .slice a n c := by
          obtain ⟨a, c, _, _, e, -⟩ := hs9
          exact ⟨a, _, c, e⟩
        subst hv9
        have hgq := lt_of_heap HYB.out; have HYC := Lib.hid ((hbe.block _ hgq).trans HYB.out); clear HYB; have HYB := HYC; clear HYC
        clear hbe HW hs9
        have HW := HV
        clear HV
        clear hHeld
        refine hK.out _ _ ⟨fun _ => HW.out, fun h => absurd h (by decide)⟩ (fun hHeld0 => ?_)
        have hHeld := hHeld0.1 rfl
        clear hHeld0 hK K
        refine wpD_take (i := 15) (v := ?_) rfl (by kernel_rfl) (fun _ _ _ h => h) (Or.inl ⟨by kernel_rfl, ?_⟩) (by assumption) ?_
        rotate_left
        focus (intro w9 hS9; clear hS9; go_simp; (try with_reducible rfl))
        (try simp only [List.getElem_toArray, List.getElem_cons_succ, List.getElem_cons_zero])
        (try simp only [Act.put])
        (try simp only [List.setIfInBounds_toArray])
        (repeat (first | simp only [List.set_cons_succ] | simp only [List.set_cons_zero]))
        refine wpD_take (i := 16) (v := ?_) rfl (by kernel_rfl) (fun _ _ _ h => h) (Or.inl ⟨by kernel_rfl, ?_⟩) (by assumption) ?_
        rotate_left
        focus (intro w9 hS9; clear hS9; go_simp; (try with_reducible rfl))
        (try simp only [List.getElem_toArray, List.getElem_cons_succ, List.getElem_cons_zero])
        (try simp only [Act.put])
        (try simp only [List.setIfInBounds_toArray])
        (repeat (first | simp only [List.set_cons_succ] | simp only [List.set_cons_zero]))
        refine wpD_take (i := 17) (v := ?_) rfl (by kernel_rfl) (fun _ _ _ h => h) (Or.inl ⟨by kernel_rfl, ?_⟩) (by assumption) ?_
        rotate_left
        focus (intro w9 hS9; clear hS9; go_simp; (try with_reducible rfl))
        (try simp only [List.getElem_toArray, List.getElem_cons_succ, List.getElem_cons_zero])
        (try simp only [Act.put])
        (try simp only [List.setIfInBounds_toArray])
        (repeat (first | simp only [List.set_cons_succ] | simp only [List.set_cons_zero]))
        obtain ⟨y0, y1, yf⟩ := blk2 HYB.out
        have hgl := lt_of_heap HYB.out
        refine wpD_ready (rs := [19]) (by kernel_rfl) (by kernel_rfl) ?_
        refine AllReadyD.cons rfl (fun K hK => ?_) AllReadyD.nil
        rw [if_pos (show _ = true by kernel_rfl)]
        go_simp
        clear hHeld
        refine hK.out _ _ ⟨fun _ => bl_set (bl_set HW.out _ hgy) _ hgy, fun h => absurd h (by decide)⟩ (fun hHeld0 => ?_)
        have hHeld := hHeld0.1 rfl
        clear hHeld0 hK K
        refine wpD_ready (rs := [20]) (by kernel_rfl) (by kernel_rfl) ?_
        refine AllReadyD.cons rfl (fun K hK => ?_) AllReadyD.nil
        rw [if_pos (show _ = true by kernel_rfl)]
        go_simp
        clear hHeld
        refine hK.out _ _ ⟨fun _ => bl_set (bl_set HW.out _ hgy) _ hgy, fun h => absurd h (by decide)⟩ (fun hHeld0 => ?_)
        have hHeld := hHeld0.1 rfl
        clear hHeld0 hK K
        refine wpD_done (by kernel_rfl) ?_
        go_wp2_with (fail)
        go_meet
        exact ⟨_, _, rfl, rfl, ER.mk_set hPB.out HW.out HWQ.out.size hgy hgq HS9.out HD9.out HYB.out⟩
    case rest =>
      obtain ⟨gy, v9, rfl, rfl, her⟩ := hcut
      have HS10 := Lib.hid (HSB.out.step her.b)
      have HR10 := Lib.hid her
      obtain ⟨a9, n9, c9, hv9⟩ : ∃ a n c, v9 = .slice a n c := by
        obtain ⟨a, c, _, _, e, -⟩ := her.se
        exact ⟨a, _, c, e⟩
      subst hv9
      have hlt := HS10.out.lt
      have hgl := lt_of_heap her.g
      have hgw := her.lo
      have hltB := HSB.out.lt
      obtain ⟨y0, y1, yf⟩ := blk2 her.g
      clear her HVB HFM HEN HDO HL0 HL4 HLB HW hPB
      by_cases hz9 : z9 = 0
      case neg =>
        have HR := Lib.hid ((HAS.out es9 z9 (by rw [HPO.out]; exact HEQ.out)).trans (if_pos hz9))
        have hz2 : (z9 != 0) = true := by simpa using hz9
        have HYX := Lib.hid HS10.out.y
        have HBX := Lib.hid HS10.out.b
        obtain ⟨d0, d1, -⟩ := blk2 HYX.out.b1
        obtain ⟨e0, e1, ef⟩ := blk2 HYX.out.b3
        clear hz9
        go_wp2
        have g5 : ((wc.setCell ⟨w.heap.size + 1 + 1 + 1, 0, none⟩ (.slice ae es.length ce)).setCell ⟨w.heap.size + 1 + 1 + 1, 1, none⟩ (.slice ad ds.length cd)).heap[w.heap.size + 1 + 1 + 1]? = some (.cells #[(.slice ae es.length ce), (.slice ad ds.length cd)] 70 (0, 0)) := heap_setCell_same _ _ _ _ _ _ (heap_setCell_same _ _ _ _ _ _ HYX.out.b3)
        have b5 : Below w.heap.size w ((wc.setCell ⟨w.heap.size + 1 + 1 + 1, 0, none⟩ (.slice ae es.length ce)).setCell ⟨w.heap.size + 1 + 1 + 1, 1, none⟩ (.slice ad ds.length cd)) := bl_set (bl_set HBX.out _ (by simp only; omega)) _ (by simp only; omega)
        obtain ⟨k0, k1, -⟩ := blk2 g5
        generalize (wc.setCell ⟨w.heap.size + 1 + 1 + 1, 0, none⟩ (.slice ae es.length ce)).setCell ⟨w.heap.size + 1 + 1 + 1, 1, none⟩ (.slice ad ds.length cd) = w9 at *
        refine bodyPost_ret (v := .tuple #[.agg #[(.slice ae es.length ce), (.slice ad ds.length cd)], .int .i64 z9]) (by simp [results, Tryz.results41, go_sem, k0, k1]) rfl ?_
        rw [HR.out]
        exact BookR.old HE.out HD.out b5
      subst hz9
      have HR := Lib.hid ((HAS.out es9 0 (by rw [HPO.out]; exact HEQ.out)).trans (if_neg (by simp)))
      have hw10 := HS10.out.b.size
      have HPU := Lib.hid (putR_any (fun k => (k < w.heap.size ∧ R k) ∨ wc.heap.size ≤ k) ds (.slice ad ds.length cd) x xa xc wc (fun k hk => .inr hk) (HD.out.keep (fun q h => ⟨.inl ⟨h.2, h.1⟩, Nat.lt_of_lt_of_le h.2 hw10⟩) (fun q h => HS10.out.b.block q h.2)) (HV.out.keep (fun q h => ⟨.inl ⟨h.2, h.1⟩, Nat.lt_of_lt_of_le h.2 hw10⟩) (fun q h => HS10.out.b.block q h.2)) HX.out (by have := HBK.out.ds; simp only at this; omega) HBK.out.sort)
      obtain ⟨x0, x1, x2, x3, x4, x5, x6, -⟩ := blk7 HS10.out.y.b2
      have x0' : wc.cell? ⟨w.heap.size + 1 + 1, 0, none⟩ = some (.string x.key) := x0
      have x1' : wc.cell? ⟨w.heap.size + 1 + 1, 1, none⟩ = some (.string x.veh) := x1
      have x2' : wc.cell? ⟨w.heap.size + 1 + 1, 2, none⟩ = some (.string x.sys) := x2
      have x3' : wc.cell? ⟨w.heap.size + 1 + 1, 3, none⟩ = some (.int .i64 x.cls) := x3
      have x4' : wc.cell? ⟨w.heap.size + 1 + 1, 4, none⟩ = some (.int .i64 x.tm) := x4
      have x5' : wc.cell? ⟨w.heap.size + 1 + 1, 5, none⟩ = some (.slice xa x.ls.length xc) := x5
      have x6' : wc.cell? ⟨w.heap.size + 1 + 1, 6, none⟩ = some (.int .i64 x.c) := x6
      clear x0 x1 x2 x3 x4 x5 x6
      go_wp2_with (fail)
      with_reducible refine HPU.out.mono ?_
      clear HPU
      rintro r w11 ⟨⟨v11, rfl, hs11⟩, hb11⟩
      have HS11 := Lib.hid hs11
      obtain ⟨a11, c11, _, _, rfl, -⟩ := id hs11
      have HSA := Lib.hid (HS10.out.step hb11)
      have HG11 := Lib.hid (show BB gy (.slice a9 n9 c9) (.slice ad ds.length cd) w11 from (hb11.block _ hgl).trans HR10.out.g)
      have hse := HR10.out.se
      rw [if_pos (by trivial)] at hse
      have HE11 := Lib.hid (hse.keep (S' := fun k => ((k < w.heap.size ∧ R k) ∨ wB.heap.size ≤ k) ∧ k ≠ gy ∧ k < w11.heap.size) (fun q h => ⟨h.1, h.2.1, Nat.lt_of_lt_of_le h.2.2 hb11.size⟩) (fun q h => hb11.block q h.2.2))
      have hz11 := hb11.size
      clear hs11 hb11 hse y0 y1 yf x0' x1' x2' x3' x4' x5' x6'
      obtain ⟨y0, y1, yf⟩ := blk2 HG11.out
      have hgl11 := lt_of_heap HG11.out
      go_upto_region 15 with (fail)
      have hne : w.heap.size + 3 ≠ gy := by omega
      have g12 : (w11.setCell ⟨gy, 1, none⟩ (.slice a11 (putP ds x).length c11)).heap[gy]? = some (.cells #[.slice a9 n9 c9, .slice a11 (putP ds x).length c11] 70 (0, 0)) := heap_setCell_same _ _ _ _ _ _ HG11.out
      have e12 : BB (w.heap.size + 3) (.slice none 0 0) (.slice none 0 0) (w11.setCell ⟨gy, 1, none⟩ (.slice a11 (putP ds x).length c11)) := (Below.heap_setCell _ _ _ _ hne).trans HSA.out.y.b3
      have b12 : Below w.heap.size w (w11.setCell ⟨gy, 1, none⟩ (.slice a11 (putP ds x).length c11)) := bl_set HSA.out.b _ (by simp only; omega)
      have h12 : ∀ q, q ≠ gy → (w11.setCell ⟨gy, 1, none⟩ (.slice a11 (putP ds x).length c11)).heap[q]? = w11.heap[q]? := fun q hq => Below.heap_setCell _ _ _ _ hq
      have z12 : (w11.setCell ⟨gy, 1, none⟩ (.slice a11 (putP ds x).length c11)).heap.size = w11.heap.size := by simp
      clear y0 y1 yf
      generalize w11.setCell ⟨gy, 1, none⟩ (.slice a11 (putP ds x).length c11) = w12 at g12 e12 b12 h12 z12 ⊢
      obtain ⟨y0, y1, -⟩ := blk2 g12
      obtain ⟨e0, e1, ef⟩ := blk2 e12
      have e0' : w12.cell? ⟨w.heap.size + 1 + 1 + 1, 0, none⟩ = some (.slice none 0 0) := e0
      have e1' : w12.cell? ⟨w.heap.size + 1 + 1 + 1, 1, none⟩ = some (.slice none 0 0) := e1
      have ef' : ∀ j, w12.frozen? ⟨w.heap.size + 1 + 1 + 1, j, none⟩ = false := ef
      have hl12 : w.heap.size + 1 + 1 + 1 < w12.heap.size := lt_of_heap e12
      have H12 := Lib.hid h12
      have Z12 := Lib.hid z12
      have B12 := Lib.hid b12
      have E12 := Lib.hid e12
      clear e0 e1 ef h12 b12 z12 e12 g12
      go_wp2
      have g5 : ((w12.setCell ⟨w.heap.size + 1 + 1 + 1, 0, none⟩ (.slice a9 n9 c9)).setCell ⟨w.heap.size + 1 + 1 + 1, 1, none⟩ (.slice a11 (putP ds x).length c11)).heap[w.heap.size + 1 + 1 + 1]? = some (.cells #[.slice a9 n9 c9, .slice a11 (putP ds x).length c11] 70 (0, 0)) := heap_setCell_same _ _ _ _ _ _ (heap_setCell_same _ _ _ _ _ _ E12.out)
      have b5 : Below w.heap.size w ((w12.setCell ⟨w.heap.size + 1 + 1 + 1, 0, none⟩ (.slice a9 n9 c9)).setCell ⟨w.heap.size + 1 + 1 + 1, 1, none⟩ (.slice a11 (putP ds x).length c11)) := bl_set (bl_set B12.out _ (by simp only; omega)) _ (by simp only; omega)
      have hoth : ∀ q, q ≠ gy → q ≠ w.heap.size + 3 → ((w12.setCell ⟨w.heap.size + 1 + 1 + 1, 0, none⟩ (.slice a9 n9 c9)).setCell ⟨w.heap.size + 1 + 1 + 1, 1, none⟩ (.slice a11 (putP ds x).length c11)).heap[q]? = w11.heap[q]? := fun q h1 h2 => ((Below.heap_setCell _ _ _ _ h2).trans (Below.heap_setCell _ _ _ _ h2)).trans (H12.out q h1)
      have hz5 : w11.heap.size = ((w12.setCell ⟨w.heap.size + 1 + 1 + 1, 0, none⟩ (.slice a9 n9 c9)).setCell ⟨w.heap.size + 1 + 1 + 1, 1, none⟩ (.slice a11 (putP ds x).length c11)).heap.size := by simp [Z12.out]
      obtain ⟨k0, k1, -⟩ := blk2 g5
      clear y0 y1 e0' e1' ef'
      generalize (w12.setCell ⟨w.heap.size + 1 + 1 + 1, 0, none⟩ (.slice a9 n9 c9)).setCell ⟨w.heap.size + 1 + 1 + 1, 1, none⟩ (.slice a11 (putP ds x).length c11) = wf at *
      refine bodyPost_ret (v := .tuple #[.agg #[.slice a9 n9 c9, .slice a11 (putP ds x).length c11], .int .i64 0]) (by simp [results, Tryz.results41, go_sem, k0, k1]) rfl ?_
      rw [HR.out]
      exact ⟨_, _, rfl, HE11.out.keep (fun q h => ⟨h.1.elim (fun h => h.2) (fun h => HRR.out q (by omega)), by omega⟩) (fun q h => hoth q h.2.1 (by rcases h.1 with h | h <;> omega)), HS11.out.keep (fun q h => ⟨h.1.elim (fun h => h.2) (fun h => HRR.out q (by omega)), by omega⟩) (fun q h => hoth q (by rcases h.1 with h | h <;> omega) (by rcases h.1 with h | h <;> omega)), b5⟩
end Go.Proofs.YtifcelebfagjbaaGreatDoor
/-
  Layer 37 (post): the reference's Void.
-/
namespace Go.Tw.Po
open Go.RowKit Go.Tw Go.Sort Go.Tw.Ord Go.Proofs.YtifcelebfagjbaaGreatDoor
/-- without a key -/
def delK (s : ByteArray) (l : List Chg) : List Chg := l.filter fun x => !decide (x.key = s)
theorem delK_take {s : ByteArray} {l : List Chg} {k : Nat} (hk : k < l.length) : delK s (l.take (k + 1)) = if l[k].key = s then delK s (l.take k) else delK s (l.take k) ++ [l[k]] := by
  unfold delK
  rw [List.take_succ_eq_append_getElem hk, List.filter_append, List.filter_cons, List.filter_nil]
  by_cases h : l[k].key = s <;> simp [h]
theorem delK_len (s : ByteArray) (l : List Chg) : (delK s l).length ≤ l.length := List.length_filter_le _ _
end Go.Tw.Po
namespace Go.Proofs.YtifcelebfagjbaaGreatDoor
open Go.RowKit Go.Tw Go.Tw.Ord Go.Tw.Po Go.Sort
/-- Void under way: its boxes, the posts -/
structure RV (w : World) (A : Array Value) (ve vd : Value) (l : List SI) (v : Value) (wr : World) : Prop where
  y : VW w.heap.size A ve vd wr
  b : Below w.heap.size w wr
  s : SlIs tSI (· < wr.heap.size) wr v l
theorem RV.lt {w : World} {A : Array Value} {ve vd : Value} {l : List SI} {v : Value} {wr : World} (h : RV w A ve vd l v wr) : w.heap.size + 2 < wr.heap.size := lt_of_heap h.y.b2
theorem RV.step {w : World} {A : Array Value} {ve vd : Value} {l : List SI} {v : Value} {wr w' : World} (h : RV w A ve vd l v wr) (hb : Below wr.heap.size wr w') : RV w A ve vd l v w' :=
  ⟨h.y.step hb h.lt, bl_trans h.b hb, h.s.step hb⟩
theorem RV.put {w : World} {A : Array Value} {ve vd : Value} {l l' : List SI} {v v' : Value} {wr w' : World} (h : RV w A ve vd l v wr) (hb : Below wr.heap.size wr w') (hs : SlIs tSI (· < w'.heap.size) w' v' l') : RV w A ve vd l' v' w' :=
  ⟨h.y.step hb h.lt, bl_trans h.b hb, hs⟩
set_option maxRecDepth 100000 in
set_option maxHeartbeats 8000000 in
theorem voidR_any (R : Nat → Prop) (L : List Chg) (N : Nat) (c : List Acc) (A : Array Value) (va ve vd : Value) (es : List Ent) (ds : List Chg) (s : ByteArray) (tm : Int) (w : World) (hR : ∀ k, w.heap.size ≤ k → R k) (hA : CfgA A va) (hc : SlIs (tAcc 138) (· < w.heap.size) w va c) (hk : CfOk c) (hb : BOk L N ⟨es, ds⟩) (hN : N ≤ 900)
    (he : SlIs (tEnt 101) (fun k => R k ∧ k < w.heap.size) w ve es) (hd : SlIs (tChg eL) (fun k => R k ∧ k < w.heap.size) w vd ds) (htm : i64ok tm) :
    Calls Tryz.prog 42 #[.agg A, .agg #[ve, vd], .string s, .int .i64 tm] w (BookR R w (voidP c ⟨es, ds⟩ s tm)) := by
  have h0 := alloc3 w (.cells A 46) (.cells #[ve, vd] 70) (.cells #[.slice none 0 0, .slice none 0 0] 70)
  have HB0 := Lib.hid (bl_alloc (bl_alloc (bl_alloc (Below.refl w.heap.size w) (.cells A 46)) (.cells #[ve, vd] 70)) (.cells #[.slice none 0 0, .slice none 0 0] 70))
  have HS0 := Lib.hid (show RV w A ve vd [] (.slice none 0 0) _ from ⟨⟨h0.1, h0.2.1, h0.2.2⟩, HB0.out, SlIs.nil⟩)
  obtain ⟨ae, ce, _, _, rfl, -⟩ := id he
  obtain ⟨ad, cd, bd, od, rfl, hd1, hd2, hdo⟩ := chg_open hd
  unfold maxLen at hd2
  have HDO := Lib.hid hdo
  have HA := Lib.hid hA
  have HC := Lib.hid hc
  have HK := Lib.hid hk
  have HE := Lib.hid he
  have HD := Lib.hid hd
  have HBK := Lib.hid hb
  have HRR := Lib.hid hR
  have HTM := Lib.hid htm
  have HFD := Lib.hid (findR_any ds ae es.length ce (.slice ad ds.length cd) s _ ((ltR hd).step HB0.out))
  obtain ⟨d0, d1, -⟩ := blk2 HS0.out.y.b1
  clear hA hc hk h0 he hd hdo hb hR htm
  go_enter Tryz.func42, Tryz.ntmps42
  go_wp2_with (fail)
  with_reducible refine HFD.out.mono ?_
  clear HFD
  rintro r w1 ⟨⟨vo, hso, rfl⟩, hb1⟩
  have HS1 := Lib.hid (HS0.out.step hb1)
  clear hb1 d0 d1 HS0 HB0
  obtain ⟨oa, on, oc, rfl⟩ : ∃ a n c, vo = .slice a n c := by
    obtain ⟨a, c, _, _, e, -⟩ := hso
    exact ⟨a, _, c, e⟩
  clear hso
  cases hf : fndC ds s with
  | none =>
    have HR := Lib.hid (vo_none (c := c) (b := ⟨es, ds⟩) (t := tm) hf)
    clear hf
    simp only [Option.getD_none, Option.isSome_none]
    go_upto_region 2 with (fail)
    have HS5 := Lib.hid (HS1.out.step (bl_alloc (Below.refl w1.heap.size w1) (.cells #[.string zeroC.key, .string zeroC.veh, .string zeroC.sys, .int .i64 zeroC.cls, .int .i64 zeroC.tm, .slice oa on oc, .int .i64 zeroC.c] 49)))
    generalize w1.alloc (.cells #[.string zeroC.key, .string zeroC.veh, .string zeroC.sys, .int .i64 zeroC.cls, .int .i64 zeroC.tm, .slice oa on oc, .int .i64 zeroC.c] 49) = w5 at HS5 ⊢
    obtain ⟨d0, d1, -⟩ := blk2 HS5.out.y.b1
    obtain ⟨f0, f1, ff⟩ := blk2 HS5.out.y.b2
    have f0' : w5.cell? ⟨w.heap.size + 1 + 1, 0, none⟩ = some (.slice none 0 0) := f0
    have f1' : w5.cell? ⟨w.heap.size + 1 + 1, 1, none⟩ = some (.slice none 0 0) := f1
    have ff' : ∀ j, w5.frozen? ⟨w.heap.size + 1 + 1, j, none⟩ = false := ff
    have hl2 : w.heap.size + 1 + 1 < w5.heap.size := HS5.out.lt
    have hl1 : w.heap.size + 1 < w5.heap.size := by omega
    have hl0 : w.heap.size < w5.heap.size := by omega
    have HYX := Lib.hid HS5.out.y
    have HBX := Lib.hid HS5.out.b
    clear f0 f1 ff
    clear HS1
    go_wp2
    have g5 : ((w5.setCell ⟨w.heap.size + 1 + 1, 0, none⟩ (.slice ae es.length ce)).setCell ⟨w.heap.size + 1 + 1, 1, none⟩ (.slice ad ds.length cd)).heap[w.heap.size + 1 + 1]? = some (.cells #[(.slice ae es.length ce), (.slice ad ds.length cd)] 70 (0, 0)) := heap_setCell_same _ _ _ _ _ _ (heap_setCell_same _ _ _ _ _ _ HYX.out.b2)
    have b5 : Below w.heap.size w ((w5.setCell ⟨w.heap.size + 1 + 1, 0, none⟩ (.slice ae es.length ce)).setCell ⟨w.heap.size + 1 + 1, 1, none⟩ (.slice ad ds.length cd)) := bl_set (bl_set HBX.out _ (by simp only; omega)) _ (by simp only; omega)
    obtain ⟨k0, k1, -⟩ := blk2 g5
    generalize (w5.setCell ⟨w.heap.size + 1 + 1, 0, none⟩ (.slice ae es.length ce)).setCell ⟨w.heap.size + 1 + 1, 1, none⟩ (.slice ad ds.length cd) = w9 at *
    refine bodyPost_ret (v := .tuple #[.agg #[(.slice ae es.length ce), (.slice ad ds.length cd)], .int .i64 10]) (by simp [results, Tryz.results42, go_sem, k0, k1]) rfl ?_
    rw [HR.out]
    exact BookR.old HE.out HD.out b5
  | some o =>
  have HFO := Lib.hid (HBK.out.cok o (fnd_mem hf).1)
  have hcf := chk_facts (HBK.out.chk o (fnd_mem hf).1)
  have hoc : 0 ≤ o.c ∧ o.c ≤ 1125899906842624 := ⟨hcf.2.2.2.2.2.2.1, hcf.2.2.2.2.2.2.2.1⟩
  have hon : IntKind.i64.wrap (-o.c) = -o.c := wrap_in (by omega) (by omega)
  have HSK := Lib.hid (show s.size ≤ 60 by have := HFO.out.key; rw [(fnd_mem hf).2] at this; exact this)
  have HF := Lib.hid hf
  clear hf hcf
  simp only [Option.getD_some, Option.isSome_some]
  go_upto_region 2 with (fail)
  have HS5 := Lib.hid (HS1.out.step (bl_alloc (Below.refl w1.heap.size w1) (.cells #[.string o.key, .string o.veh, .string o.sys, .int .i64 o.cls, .int .i64 o.tm, .slice oa on oc, .int .i64 o.c] 49)))
  have HG5 := Lib.hid (show XB w1.heap.size o (.slice oa on oc) _ from heap_alloc_new w1 (.cells #[.string o.key, .string o.veh, .string o.sys, .int .i64 o.cls, .int .i64 o.tm, .slice oa on oc, .int .i64 o.c] 49))
  generalize w1.alloc (.cells #[.string o.key, .string o.veh, .string o.sys, .int .i64 o.cls, .int .i64 o.tm, .slice oa on oc, .int .i64 o.c] 49) = w5 at HS5 HG5 ⊢
  generalize w1.heap.size = go at HG5 ⊢
  clear HS1
  have ht3 : tm < 0 ∨ (0 ≤ tm ∧ 68719476736 < tm) ∨ (0 ≤ tm ∧ tm ≤ 68719476736) := by omega
  rcases ht3 with t1 | ⟨t1, t2⟩ | ⟨t1, t2⟩
  · have HR := Lib.hid (vo_time (c := c) (b := ⟨es, ds⟩) HF.out (show momC tm = false by unfold momC; rw [decide_eq_false (by omega)]; rfl))
    obtain ⟨d0, d1, -⟩ := blk2 HS5.out.y.b1
    obtain ⟨f0, f1, ff⟩ := blk2 HS5.out.y.b2
    have f0' : w5.cell? ⟨w.heap.size + 1 + 1, 0, none⟩ = some (.slice none 0 0) := f0
    have f1' : w5.cell? ⟨w.heap.size + 1 + 1, 1, none⟩ = some (.slice none 0 0) := f1
    have ff' : ∀ j, w5.frozen? ⟨w.heap.size + 1 + 1, j, none⟩ = false := ff
    have hl2 : w.heap.size + 1 + 1 < w5.heap.size := HS5.out.lt
    have hl1 : w.heap.size + 1 < w5.heap.size := by omega
    have hl0 : w.heap.size < w5.heap.size := by omega
    have HYX := Lib.hid HS5.out.y
    have HBX := Lib.hid HS5.out.b
    clear f0 f1 ff
    go_wp2
    have g5 : ((w5.setCell ⟨w.heap.size + 1 + 1, 0, none⟩ (.slice ae es.length ce)).setCell ⟨w.heap.size + 1 + 1, 1, none⟩ (.slice ad ds.length cd)).heap[w.heap.size + 1 + 1]? = some (.cells #[(.slice ae es.length ce), (.slice ad ds.length cd)] 70 (0, 0)) := heap_setCell_same _ _ _ _ _ _ (heap_setCell_same _ _ _ _ _ _ HYX.out.b2)
    have b5 : Below w.heap.size w ((w5.setCell ⟨w.heap.size + 1 + 1, 0, none⟩ (.slice ae es.length ce)).setCell ⟨w.heap.size + 1 + 1, 1, none⟩ (.slice ad ds.length cd)) := bl_set (bl_set HBX.out _ (by simp only; omega)) _ (by simp only; omega)
    obtain ⟨k0, k1, -⟩ := blk2 g5
    generalize (w5.setCell ⟨w.heap.size + 1 + 1, 0, none⟩ (.slice ae es.length ce)).setCell ⟨w.heap.size + 1 + 1, 1, none⟩ (.slice ad ds.length cd) = w9 at *
    refine bodyPost_ret (v := .tuple #[.agg #[(.slice ae es.length ce), (.slice ad ds.length cd)], .int .i64 12]) (by simp [results, Tryz.results42, go_sem, k0, k1]) rfl ?_
    rw [HR.out]
    exact BookR.old HE.out HD.out b5
  · have HR := Lib.hid (vo_time (c := c) (b := ⟨es, ds⟩) HF.out (show momC tm = false by unfold momC; rw [decide_eq_false (show ¬ tm ≤ 68719476736 by omega), Bool.and_false]))
    obtain ⟨d0, d1, -⟩ := blk2 HS5.out.y.b1
    obtain ⟨f0, f1, ff⟩ := blk2 HS5.out.y.b2
    have f0' : w5.cell? ⟨w.heap.size + 1 + 1, 0, none⟩ = some (.slice none 0 0) := f0
    have f1' : w5.cell? ⟨w.heap.size + 1 + 1, 1, none⟩ = some (.slice none 0 0) := f1
    have ff' : ∀ j, w5.frozen? ⟨w.heap.size + 1 + 1, j, none⟩ = false := ff
    have hl2 : w.heap.size + 1 + 1 < w5.heap.size := HS5.out.lt
    have hl1 : w.heap.size + 1 < w5.heap.size := by omega
    have hl0 : w.heap.size < w5.heap.size := by omega
    have HYX := Lib.hid HS5.out.y
    have HBX := Lib.hid HS5.out.b
    clear f0 f1 ff
    go_wp2
    have g5 : ((w5.setCell ⟨w.heap.size + 1 + 1, 0, none⟩ (.slice ae es.length ce)).setCell ⟨w.heap.size + 1 + 1, 1, none⟩ (.slice ad ds.length cd)).heap[w.heap.size + 1 + 1]? = some (.cells #[(.slice ae es.length ce), (.slice ad ds.length cd)] 70 (0, 0)) := heap_setCell_same _ _ _ _ _ _ (heap_setCell_same _ _ _ _ _ _ HYX.out.b2)
    have b5 : Below w.heap.size w ((w5.setCell ⟨w.heap.size + 1 + 1, 0, none⟩ (.slice ae es.length ce)).setCell ⟨w.heap.size + 1 + 1, 1, none⟩ (.slice ad ds.length cd)) := bl_set (bl_set HBX.out _ (by simp only; omega)) _ (by simp only; omega)
    obtain ⟨k0, k1, -⟩ := blk2 g5
    generalize (w5.setCell ⟨w.heap.size + 1 + 1, 0, none⟩ (.slice ae es.length ce)).setCell ⟨w.heap.size + 1 + 1, 1, none⟩ (.slice ad ds.length cd) = w9 at *
    refine bodyPost_ret (v := .tuple #[.agg #[(.slice ae es.length ce), (.slice ad ds.length cd)], .int .i64 12]) (by simp [results, Tryz.results42, go_sem, k0, k1]) rfl ?_
    rw [HR.out]
    exact BookR.old HE.out HD.out b5
  have HMO := Lib.hid (show momC tm = true by unfold momC; rw [decide_eq_true t1, decide_eq_true t2]; rfl)
  have HM5 := Lib.hid PL.nil
  have LDC := fun d os => ldc_re HS5.out.y.b0 HA.out.size d os
  have LDX := fun d os => ldx_re HG5.out d os
  have c6 := (blk7 HG5.out).2.2.2.2.2.2.1
  have b6 := cell_regrown c6
  clear c6
  have cD := fun d os => Calls.regrown_of (debit_any c A va o oa on oc _ HA.out (HC.out.step (bl_trans HS5.out.b (below_regrown w5 d os))) HK.out HFO.out.veh)
  go_upto_region 6 with (fail)
  refine wp_region_below_tail 6 (by kernel_rfl) (by kernel_rfl) ?_
  simp only [List.take_succ_cons, List.take_zero, List.drop_succ_cons, List.drop_zero]
  refine wpQuiet_step (fun K hK => ?_)
  rw [if_pos (show _ = true by kernel_rfl)]
  refine quiet_loadA (A := A) rfl Tryz.isAgg46 Tryz.sizeOf46 rfl (fun w' hw' => ?_) (hK _ ?_)
  · obtain ⟨⟨nq, osq⟩, rfl⟩ := hw'
    exact LDC nq osq
  clear hK K
  refine wpQuiet_step (fun K hK => ?_)
  rw [if_pos (show _ = true by kernel_rfl)]
  refine quiet_loadA (A := #[.string o.key, .string o.veh, .string o.sys, .int .i64 o.cls, .int .i64 o.tm, .slice oa on oc, .int .i64 o.c]) rfl Tryz.isAgg49 Tryz.sizeOf49 rfl (fun w' hw' => ?_) (hK _ ?_)
  · obtain ⟨⟨nq, osq⟩, rfl⟩ := hw'
    exact LDX nq osq
  clear hK K
  (repeat (quiet_step (first | (go_at_call 38; with_reducible exact cD _ _))))
  refine wpQuiet_nil ?_
  intro wq6 hq6
  have HQ6 := Lib.hid (HS5.out.step hq6)
  have HG6 := Lib.hid (HG5.out.step hq6)
  have HAD := Lib.hid (addR_any [] _ (debC c o) (-o.c) wq6 HQ6.out.s (Nat.le_trans HM5.out.2 (by decide)) (debC_size HK.out HFO.out.veh) (HM5.out.amt (by decide)) (by omega))
  have HM6 := Lib.hid (HM5.out.add (a := (debC c o)) (n := (-o.c)) (by omega) (by omega))
  clear hq6 cD b6 LDX
  go_wp2_with (fail)
  with_reducible refine HAD.out.mono ?_
  clear HAD
  rintro r w6 ⟨⟨v6, rfl, hn6⟩, hb6⟩
  have HS6 := Lib.hid (HQ6.out.put hb6 hn6.sl')
  have HH6 := Lib.hid (HG6.out.step hb6)
  clear HG6
  have HG6 := HH6
  clear HH6
  obtain ⟨a6, c6, rfl, -⟩ := hn6.form
  clear hn6 hb6 HQ6
  clear LDC
  have LDC := fun d os => ldc_re HS6.out.y.b0 HA.out.size d os
  have LDX := fun d os => ldx_re HG6.out d os
  have c6 := (blk7 HG6.out).2.2.2.2.2.2.1
  have b6 := cell_regrown c6
  clear c6
  have cD := fun d os => Calls.regrown_of (credit_any o (.slice oa on oc) (grow (redrawn w6 d) os) HFO.out.sys)
  go_upto_region 7 with (fail)
  refine wp_region_below_tail 5 (by kernel_rfl) (by kernel_rfl) ?_
  simp only [List.take_succ_cons, List.take_zero, List.drop_succ_cons, List.drop_zero]
  quiet_step (fail)
  refine wpQuiet_step (fun K hK => ?_)
  rw [if_pos (show _ = true by kernel_rfl)]
  refine quiet_loadA (A := #[.string o.key, .string o.veh, .string o.sys, .int .i64 o.cls, .int .i64 o.tm, .slice oa on oc, .int .i64 o.c]) rfl Tryz.isAgg49 Tryz.sizeOf49 rfl (fun w' hw' => ?_) (hK _ ?_)
  · obtain ⟨⟨nq, osq⟩, rfl⟩ := hw'
    exact LDX nq osq
  clear hK K
  (repeat (quiet_step (first | (go_at_call 39; with_reducible exact cD _ _))))
  refine wpQuiet_nil ?_
  intro wqB hqB
  have HQB := Lib.hid (HS6.out.step hqB)
  have HGB := Lib.hid (HG6.out.step hqB)
  have HAD := Lib.hid (addR_any (addP [] (debC c o) (-o.c)) _ (creC o) o.c wqB HQB.out.s (Nat.le_trans HM6.out.2 (by decide)) (creC_size HFO.out.sys) (HM6.out.amt (by decide)) (by omega))
  have HMB := Lib.hid (HM6.out.add (a := (creC o)) (n := o.c) (by omega) (by omega))
  clear hqB cD b6 LDX
  go_wp2_with (fail)
  with_reducible refine HAD.out.mono ?_
  clear HAD
  rintro r wB ⟨⟨vB, rfl, hnB⟩, hbB⟩
  have HSB := Lib.hid (HQB.out.put hbB hnB.sl')
  have HHB := Lib.hid (HGB.out.step hbB)
  clear HGB
  have HGB := HHB
  clear HHB
  obtain ⟨aB, cB, rfl, -⟩ := hnB.form
  clear hnB hbB HQB
  clear LDC HG5 HG6 HGB HS5 HS6 HM5 HM6
  have HPO := Lib.hid (show moveP c [] o (-o.c) = addP (addP [] (debC c o) (-o.c)) (creC o) o.c by rw [move_eq, Int.neg_neg])
  generalize addP (addP [] (debC c o) (-o.c)) (creC o) o.c = pl at HSB HMB HPO ⊢
  have hvl : (verN es s : Int) ≤ 900 := by have h1 := HBK.out.len; have h2 := ver_le (l := es) (s := s); simp only at h1; omega
  have hv0 : 0 ≤ (verN es s : Int) := by omega
  have HVE := Lib.hid (show ∀ W, Below w.heap.size w W → Calls Tryz.prog 76 #[.agg #[.slice ae es.length ce], .string s] W fun e w' => e = .returned (.int .i64 (verN es s)) ∧ Below W.heap.size W w' from fun W hW => versionR_any es (.slice ae es.length ce) s W ((ltR HE.out).step hW) (by have := HSK.out; omega) (by have := HBK.out.len; simp only at this; omega))
  have hke := HSK.out
  have HAS := Lib.hid (fun es' z => @vo_s c ⟨es, ds⟩ s tm o HF.out HMO.out es' z)
  simp only at HAS
  generalize (verN es s : Int) = vn at HVE hvl hv0 HAS
  have hvi : i64ok vn := by unfold i64ok; omega
  have HFM := Lib.hid (FormatR_any vn hvi)
  have hfz := fmt_size hvi
  have HKS := Lib.hid (keyC_size hke hvi)
  have HKE := Lib.hid (show keyC s vn = s ++ ⟨#[35]⟩ ++ fmtS vn from rfl)
  clear hvi
  generalize keyC s vn = kk at HKS HKE HAS
  generalize fmtS vn = fm at *
  obtain ⟨⟨es9, z9⟩, hen⟩ : ∃ r, enterL es kk tm (moveP c [] o (-o.c)) = r := ⟨_, rfl⟩
  rw [HPO.out] at hen
  have HEQ := Lib.hid hen
  have HEN := Lib.hid (show ∀ W, Below wB.heap.size wB W → Calls Tryz.prog 75 #[.agg #[.slice ae es.length ce, .slice ad ds.length cd], .string (s ++ ⟨#[35]⟩ ++ fm), .int .i64 tm, .slice aB pl.length cB] W (EntRE (fun k => (k < w.heap.size ∧ R k) ∨ W.heap.size ≤ k) W (.slice ad ds.length cd) es (es9, z9)) from fun W hW => by
    rw [← hen, ← HKE.out]
    exact enterR_any _ es (.slice ae es.length ce) ad ds.length cd kk tm pl (.slice aB pl.length cB) W (fun k hk => .inr hk) (HE.out.keep (fun q h => ⟨.inl ⟨h.2, h.1⟩, Nat.lt_of_lt_of_le h.2 (Nat.le_trans HSB.out.b.size hW.size)⟩) (fun q h => (bl_trans HSB.out.b hW).block q h.2)) (HSB.out.s.step hW) (Nat.le_trans HKS.out (by decide)) HTM.out HBK.out.es (by have := HBK.out.len; simp only at this; omega) (Nat.le_trans HMB.out.2 (by decide)))
  unfold EntRE at HEN
  clear hen
  have hbz : w.heap.size ≤ wB.heap.size := HSB.out.b.size
  have HDD := HDO
  clear HDO
  have HDO := Lib.hid (show ∀ (W W' : World), Below wB.heap.size wB W → Below W.heap.size W W' → SlIs (tChg eL) (fun k => ((k < w.heap.size ∧ R k) ∨ W.heap.size ≤ k) ∧ k < W'.heap.size) W' (.slice ad ds.length cd) ds from fun W W' h1 h2 => HD.out.keep (fun q h => ⟨.inl ⟨h.2, h.1⟩, Nat.lt_of_lt_of_le h.2 (Nat.le_trans hbz (Nat.le_trans h1.size h2.size))⟩) (fun q h => (bl_trans (bl_trans HSB.out.b h1) h2).block q h.2))
  have HLB := Lib.hid (show ∀ w', Below wB.heap.size wB w' → w'.cell? ⟨w.heap.size + 1, 0, none⟩ = some (.slice ae es.length ce) ∧ w'.cell? ⟨w.heap.size + 1, 1, none⟩ = some (.slice ad ds.length cd) from fun w' h => ⟨(blk2 (HSB.out.step h).y.b1).1, (blk2 (HSB.out.step h).y.b1).2.1⟩)
  have HVB := Lib.hid (fun W (h : Below wB.heap.size wB W) => HVE.out W (bl_trans HSB.out.b h))
  have z1 : ¬ (9223372036854775807 < s.size + 1) := by omega
  have z2 : ¬ (9223372036854775807 < s.size + 1 + fm.size) := by omega
  have hPB := Lib.hid (show ∀ k, (k < w.heap.size ∧ R k) → k < wB.heap.size from fun k h => by omega)
  clear HVE hfz hvl hv0
  have HW := Lib.hid (Below.drew (Below.refl wB.heap.size wB))
  go_upto_region 8 with (fail)
  go_cut [13, 14] (fun yv fv wx => ∃ (gy : Nat) (v9 : Value), yv = .pointer (some ⟨gy, 0, none⟩) ∧ fv = .int .i64 z9 ∧ ER wB (fun k => k < w.heap.size ∧ R k) gy v9 (.slice ad ds.length cd) (if z9 = 0 then es9 else es) ds wx)
  case first =>
    refine wp_region_D (fun j => if j < 18 then 0 else if j < 18 then 1 else 2) (fun w' => Below wB.heap.size wB w') (by kernel_rfl) (HW.out) (fun hHeld => ?_)
    refine wpD_take (i := 0) (v := ?_) rfl (by kernel_rfl) (fun _ _ _ h => h) (Or.inl ⟨by kernel_rfl, ?_⟩) (by assumption) ?_
    rotate_left
    focus (intro w9 hS9; obtain ⟨z0, z1⟩ := HLB.out w9 hS9; clear hS9; go_simp; (try with_reducible rfl))
    (try simp only [List.getElem_toArray, List.getElem_cons_succ, List.getElem_cons_zero])
    (try simp only [Act.put])
    (try simp only [List.setIfInBounds_toArray])
    (repeat (first | simp only [List.set_cons_succ] | simp only [List.set_cons_zero]))
    refine wpD_take (i := 1) (v := ?_) rfl (by kernel_rfl) (fun _ _ _ h => h) (Or.inl ⟨by kernel_rfl, ?_⟩) (by assumption) ?_
    rotate_left
    focus (intro w9 hS9; clear hS9; go_simp; (try with_reducible rfl))
    (try simp only [List.getElem_toArray, List.getElem_cons_succ, List.getElem_cons_zero])
    (try simp only [Act.put])
    (try simp only [List.setIfInBounds_toArray])
    (repeat (first | simp only [List.set_cons_succ] | simp only [List.set_cons_zero]))
    refine wpD_take (i := 2) (v := ?_) rfl (by kernel_rfl) (fun _ _ _ h => h) (Or.inl ⟨by kernel_rfl, ?_⟩) (by assumption) ?_
    rotate_left
    focus (intro w9 hS9; clear hS9; go_simp; (try with_reducible rfl))
    (try simp only [List.getElem_toArray, List.getElem_cons_succ, List.getElem_cons_zero])
    (try simp only [Act.put])
    (try simp only [List.setIfInBounds_toArray])
    (repeat (first | simp only [List.set_cons_succ] | simp only [List.set_cons_zero]))
    refine wpD_take (i := 3) (v := ?_) rfl (by kernel_rfl) (fun _ _ _ h => h) (Or.inl ⟨by kernel_rfl, ?_⟩) (by assumption) ?_
    rotate_left
    focus (intro w9 hS9; clear hS9; go_simp; (try with_reducible rfl))
    (try simp only [List.getElem_toArray, List.getElem_cons_succ, List.getElem_cons_zero])
    (try simp only [Act.put])
    (try simp only [List.setIfInBounds_toArray])
    (repeat (first | simp only [List.set_cons_succ] | simp only [List.set_cons_zero]))
    refine wpD_take (i := 4) (v := ?_) rfl (by kernel_rfl) (fun _ _ _ h => h) (Or.inl ⟨by kernel_rfl, ?_⟩) (by assumption) ?_
    rotate_left
    focus (intro w9 hS9; obtain ⟨z0, z1⟩ := HLB.out w9 hS9; clear hS9; go_simp; (try with_reducible rfl))
    (try simp only [List.getElem_toArray, List.getElem_cons_succ, List.getElem_cons_zero])
    (try simp only [Act.put])
    (try simp only [List.setIfInBounds_toArray])
    (repeat (first | simp only [List.set_cons_succ] | simp only [List.set_cons_zero]))
    refine wpD_take (i := 5) (v := ?_) rfl (by kernel_rfl) (fun _ _ _ h => h) (Or.inl ⟨by kernel_rfl, ?_⟩) (by assumption) ?_
    rotate_left
    focus (intro w9 hS9; clear hS9; go_simp; (try with_reducible rfl))
    (try simp only [List.getElem_toArray, List.getElem_cons_succ, List.getElem_cons_zero])
    (try simp only [Act.put])
    (try simp only [List.setIfInBounds_toArray])
    (repeat (first | simp only [List.set_cons_succ] | simp only [List.set_cons_zero]))
    refine wpD_take (i := 9) (v := ?_) rfl (by kernel_rfl) (fun _ _ _ h => h) (Or.inl ⟨by kernel_rfl, ?_⟩) (by assumption) ?_
    rotate_left
    focus (intro w9 hS9; clear hS9; go_simp; (try with_reducible rfl))
    (try simp only [List.getElem_toArray, List.getElem_cons_succ, List.getElem_cons_zero])
    (try simp only [Act.put])
    (try simp only [List.setIfInBounds_toArray])
    (repeat (first | simp only [List.set_cons_succ] | simp only [List.set_cons_zero]))
    refine wpD_take (i := 10) (v := ?_) rfl (by kernel_rfl) (fun _ _ _ h => h) (Or.inl ⟨by kernel_rfl, ?_⟩) (by assumption) ?_
    rotate_left
    focus (intro w9 hS9; clear hS9; go_simp; (try with_reducible rfl))
    (try simp only [List.getElem_toArray, List.getElem_cons_succ, List.getElem_cons_zero])
    (try simp only [Act.put])
    (try simp only [List.setIfInBounds_toArray])
    (repeat (first | simp only [List.set_cons_succ] | simp only [List.set_cons_zero]))
    refine wpD_ready (rs := [6, 15]) (by kernel_rfl) (by kernel_rfl) ?_
    refine AllReadyD.cons rfl (fun K hK => ?_) (AllReadyD.cons rfl (fun K hK => ?_) AllReadyD.nil)
    · rw [if_pos (show _ = true by kernel_rfl)]
      go_simp
      with_reducible refine (HVB.out _ HW.out).mono ?_
      rintro r w7 ⟨rfl, hbv⟩
      have HV := Lib.hid (bl_trans HW.out hbv)
      skip
      clear hbv HW
      have HW := HV
      clear HV
      clear hHeld
      refine hK.out _ _ ⟨fun _ => HW.out, fun h => absurd h (by decide)⟩ (fun hHeld0 => ?_)
      have hHeld := hHeld0.1 rfl
      clear hHeld0 hK K
      refine wpD_ready (rs := [7, 15]) (by kernel_rfl) (by kernel_rfl) ?_
      refine AllReadyD.cons rfl (fun K hK => ?_) (AllReadyD.cons rfl (fun K hK => ?_) AllReadyD.nil)
      · rw [if_pos (show _ = true by kernel_rfl)]
        go_simp
        with_reducible refine (HFM.out _).mono ?_
        rintro r w8 ⟨rfl, rfl⟩
        clear hHeld
        refine hK.out _ _ ⟨fun _ => HW.out, fun h => absurd h (by decide)⟩ (fun hHeld0 => ?_)
        have hHeld := hHeld0.1 rfl
        clear hHeld0 hK K
        refine wpD_take (i := 8) (v := ?_) rfl (by kernel_rfl) (fun _ _ _ h => h) (Or.inl ⟨by kernel_rfl, ?_⟩) (by assumption) ?_
        rotate_left
        focus (intro w9 hS9; clear hS9; go_simp; (try with_reducible rfl))
        (try simp only [List.getElem_toArray, List.getElem_cons_succ, List.getElem_cons_zero])
        (try simp only [Act.put])
        (try simp only [List.setIfInBounds_toArray])
        (repeat (first | simp only [List.set_cons_succ] | simp only [List.set_cons_zero]))
        refine wpD_ready (rs := [11, 15]) (by kernel_rfl) (by kernel_rfl) ?_
        refine AllReadyD.cons rfl (fun K hK => ?_) (AllReadyD.cons rfl (fun K hK => ?_) AllReadyD.nil)
        · rw [if_pos (show _ = true by kernel_rfl)]
          go_simp
          with_reducible refine (HEN.out _ HW.out).mono ?_
          rintro r w9 ⟨⟨v9, rfl, hs9⟩, hbe⟩
          have HS9 := Lib.hid hs9
          have HD9 := Lib.hid (HDO.out _ _ HW.out hbe)
          have HV := Lib.hid (bl_trans HW.out hbe)
          have HWQ := HW
          obtain ⟨a9, n9, c9, hv9⟩ : ∃ a n c, v9 = .slice a n c := by
            obtain ⟨a, c, _, _, e, -⟩ := hs9
            exact ⟨a, _, c, e⟩
          subst hv9
          skip
          clear hbe HW hs9
          have HW := HV
          clear HV
          clear hHeld
          refine hK.out _ _ ⟨fun _ => HW.out, fun h => absurd h (by decide)⟩ (fun hHeld0 => ?_)
          have hHeld := hHeld0.1 rfl
          clear hHeld0 hK K
          refine wpD_take (i := 12) (v := ?_) rfl (by kernel_rfl) (fun _ _ _ h => h) (Or.inl ⟨by kernel_rfl, ?_⟩) (by assumption) ?_
          rotate_left
          focus (intro w9 hS9; clear hS9; go_simp; (try with_reducible rfl))
          (try simp only [List.getElem_toArray, List.getElem_cons_succ, List.getElem_cons_zero])
          (try simp only [Act.put])
          (try simp only [List.setIfInBounds_toArray])
          (repeat (first | simp only [List.set_cons_succ] | simp only [List.set_cons_zero]))
          refine wpD_take (i := 13) (v := ?_) rfl (by kernel_rfl) (fun _ _ _ h => h) (Or.inl ⟨by kernel_rfl, ?_⟩) (by assumption) ?_
          rotate_left
          focus (intro w9 hS9; clear hS9; go_simp; (try with_reducible rfl))
          (try simp only [List.getElem_toArray, List.getElem_cons_succ, List.getElem_cons_zero])
          (try simp only [Act.put])
          (try simp only [List.setIfInBounds_toArray])
          (repeat (first | simp only [List.set_cons_succ] | simp only [List.set_cons_zero]))
          refine wpD_take (i := 14) (v := ?_) rfl (by kernel_rfl) (fun _ _ _ h => h) (Or.inl ⟨by kernel_rfl, ?_⟩) (by assumption) ?_
          rotate_left
          focus (intro w9 hS9; clear hS9; go_simp; (try with_reducible rfl))
          (try simp only [List.getElem_toArray, List.getElem_cons_succ, List.getElem_cons_zero])
          (try simp only [Act.put])
          (try simp only [List.setIfInBounds_toArray])
          (repeat (first | simp only [List.set_cons_succ] | simp only [List.set_cons_zero]))
          refine wpD_ready (rs := [15]) (by kernel_rfl) (by kernel_rfl) ?_
          refine AllReadyD.cons rfl (fun K hK => ?_) AllReadyD.nil
          rw [if_pos (show _ = true by kernel_rfl)]
          go_simp
          clear hHeld
          refine hK.out _ _ ⟨fun _ => bl_alloc HW.out _, fun h => absurd h (by decide)⟩ (fun hHeld0 => ?_)
          have hHeld := hHeld0.1 rfl
          clear hHeld0 hK K
          refine wpD_ready (rs := [16]) (by kernel_rfl) (by kernel_rfl) ?_
          refine AllReadyD.cons rfl (fun K hK => ?_) AllReadyD.nil
          rw [if_pos (show _ = true by kernel_rfl)]
          go_simp
          clear hHeld
          refine hK.out _ _ ⟨fun _ => bl_alloc HW.out _, fun h => absurd h (by decide)⟩ (fun hHeld0 => ?_)
          have hHeld := hHeld0.1 rfl
          clear hHeld0 hK K
          refine wpD_ready (rs := [17]) (by kernel_rfl) (by kernel_rfl) ?_
          refine AllReadyD.cons rfl (fun K hK => ?_) AllReadyD.nil
          rw [if_pos (show _ = true by kernel_rfl)]
          go_simp
          clear hHeld
          refine hK.out _ _ ⟨fun _ => bl_alloc HW.out _, fun h => absurd h (by decide)⟩ (fun hHeld0 => ?_)
          have hHeld := hHeld0.1 rfl
          clear hHeld0 hK K
          refine wpD_done (by kernel_rfl) ?_
          go_wp2_with (fail)
          go_meet
          exact ⟨_, _, rfl, rfl, ER.mk_alloc hPB.out HW.out HWQ.out.size HS9.out HD9.out⟩
        · rw [if_pos (show _ = true by kernel_rfl)]
          go_simp
          clear hHeld
          refine hK.out _ _ ⟨fun _ => bl_alloc HW.out _, fun h => absurd h (by decide)⟩ (fun hHeld0 => ?_)
          have hHeld := hHeld0.1 rfl
          clear hHeld0 hK K
          have HYB := Lib.hid (show BB (w7).heap.size (.slice none 0 0) (.slice none 0 0) _ from heap_alloc_new (w7) (.cells #[.slice none 0 0, .slice none 0 0] 70))
          have HV := Lib.hid (bl_alloc HW.out (.cells #[.slice none 0 0, .slice none 0 0] 70))
          have hgy : wB.heap.size ≤ (w7).heap.size := HW.out.size
          clear HW
          have HW := HV
          clear HV
          generalize (w7).alloc (.cells #[.slice none 0 0, .slice none 0 0] 70) = wy at HYB HW hHeld ⊢
          generalize (w7).heap.size = gy at HYB hgy ⊢
          refine wpD_ready (rs := [11]) (by kernel_rfl) (by kernel_rfl) ?_
          refine AllReadyD.cons rfl (fun K hK => ?_) AllReadyD.nil
          rw [if_pos (show _ = true by kernel_rfl)]
          go_simp
          with_reducible refine (HEN.out _ HW.out).mono ?_
          rintro r w9 ⟨⟨v9, rfl, hs9⟩, hbe⟩
          have HS9 := Lib.hid hs9
          have HD9 := Lib.hid (HDO.out _ _ HW.out hbe)
          have HV := Lib.hid (bl_trans HW.out hbe)
          have HWQ := HW
          obtain ⟨a9, n9, c9, hv9⟩ : ∃ a n c, v9 = .slice a n c := by
            obtain ⟨a, c, _, _, e, -⟩ := hs9
            exact ⟨a, _, c, e⟩
          subst hv9
          have hgq := lt_of_heap HYB.out; have HYC := Lib.hid ((hbe.block _ hgq).trans HYB.out); clear HYB; have HYB := HYC; clear HYC
          clear hbe HW hs9
          have HW := HV
          clear HV
          clear hHeld
          refine hK.out _ _ ⟨fun _ => HW.out, fun h => absurd h (by decide)⟩ (fun hHeld0 => ?_)
          have hHeld := hHeld0.1 rfl
          clear hHeld0 hK K
          refine wpD_take (i := 12) (v := ?_) rfl (by kernel_rfl) (fun _ _ _ h => h) (Or.inl ⟨by kernel_rfl, ?_⟩) (by assumption) ?_
          rotate_left
          focus (intro w9 hS9; clear hS9; go_simp; (try with_reducible rfl))
          (try simp only [List.getElem_toArray, List.getElem_cons_succ, List.getElem_cons_zero])
          (try simp only [Act.put])
          (try simp only [List.setIfInBounds_toArray])
          (repeat (first | simp only [List.set_cons_succ] | simp only [List.set_cons_zero]))
          refine wpD_take (i := 13) (v := ?_) rfl (by kernel_rfl) (fun _ _ _ h => h) (Or.inl ⟨by kernel_rfl, ?_⟩) (by assumption) ?_
          rotate_left
          focus (intro w9 hS9; clear hS9; go_simp; (try with_reducible rfl))
          (try simp only [List.getElem_toArray, List.getElem_cons_succ, List.getElem_cons_zero])
          (try simp only [Act.put])
          (try simp only [List.setIfInBounds_toArray])
          (repeat (first | simp only [List.set_cons_succ] | simp only [List.set_cons_zero]))
          refine wpD_take (i := 14) (v := ?_) rfl (by kernel_rfl) (fun _ _ _ h => h) (Or.inl ⟨by kernel_rfl, ?_⟩) (by assumption) ?_
          rotate_left
          focus (intro w9 hS9; clear hS9; go_simp; (try with_reducible rfl))
          (try simp only [List.getElem_toArray, List.getElem_cons_succ, List.getElem_cons_zero])
          (try simp only [Act.put])
          (try simp only [List.setIfInBounds_toArray])
          (repeat (first | simp only [List.set_cons_succ] | simp only [List.set_cons_zero]))
          obtain ⟨y0, y1, yf⟩ := blk2 HYB.out
          have hgl := lt_of_heap HYB.out
          refine wpD_ready (rs := [16]) (by kernel_rfl) (by kernel_rfl) ?_
          refine AllReadyD.cons rfl (fun K hK => ?_) AllReadyD.nil
          rw [if_pos (show _ = true by kernel_rfl)]
          go_simp
          clear hHeld
          refine hK.out _ _ ⟨fun _ => bl_set (bl_set HW.out _ hgy) _ hgy, fun h => absurd h (by decide)⟩ (fun hHeld0 => ?_)
          have hHeld := hHeld0.1 rfl
          clear hHeld0 hK K
          refine wpD_ready (rs := [17]) (by kernel_rfl) (by kernel_rfl) ?_
          refine AllReadyD.cons rfl (fun K hK => ?_) AllReadyD.nil
          rw [if_pos (show _ = true by kernel_rfl)]
          go_simp
          clear hHeld
          refine hK.out _ _ ⟨fun _ => bl_set (bl_set HW.out _ hgy) _ hgy, fun h => absurd h (by decide)⟩ (fun hHeld0 => ?_)
          have hHeld := hHeld0.1 rfl
          clear hHeld0 hK K
          refine wpD_done (by kernel_rfl) ?_
          go_wp2_with (fail)
          go_meet
          exact ⟨_, _, rfl, rfl, ER.mk_set hPB.out HW.out HWQ.out.size hgy hgq HS9.out HD9.out HYB.out⟩
      · rw [if_pos (show _ = true by kernel_rfl)]
        go_simp
        clear hHeld
        refine hK.out _ _ ⟨fun _ => bl_alloc HW.out _, fun h => absurd h (by decide)⟩ (fun hHeld0 => ?_)
        have hHeld := hHeld0.1 rfl
        clear hHeld0 hK K
        have HYB := Lib.hid (show BB (w7).heap.size (.slice none 0 0) (.slice none 0 0) _ from heap_alloc_new (w7) (.cells #[.slice none 0 0, .slice none 0 0] 70))
        have HV := Lib.hid (bl_alloc HW.out (.cells #[.slice none 0 0, .slice none 0 0] 70))
        have hgy : wB.heap.size ≤ (w7).heap.size := HW.out.size
        clear HW
        have HW := HV
        clear HV
        generalize (w7).alloc (.cells #[.slice none 0 0, .slice none 0 0] 70) = wy at HYB HW hHeld ⊢
        generalize (w7).heap.size = gy at HYB hgy ⊢
        refine wpD_ready (rs := [7]) (by kernel_rfl) (by kernel_rfl) ?_
        refine AllReadyD.cons rfl (fun K hK => ?_) AllReadyD.nil
        rw [if_pos (show _ = true by kernel_rfl)]
        go_simp
        with_reducible refine (HFM.out _).mono ?_
        rintro r w8 ⟨rfl, rfl⟩
        clear hHeld
        refine hK.out _ _ ⟨fun _ => HW.out, fun h => absurd h (by decide)⟩ (fun hHeld0 => ?_)
        have hHeld := hHeld0.1 rfl
        clear hHeld0 hK K
        refine wpD_take (i := 8) (v := ?_) rfl (by kernel_rfl) (fun _ _ _ h => h) (Or.inl ⟨by kernel_rfl, ?_⟩) (by assumption) ?_
        rotate_left
        focus (intro w9 hS9; clear hS9; go_simp; (try with_reducible rfl))
        (try simp only [List.getElem_toArray, List.getElem_cons_succ, List.getElem_cons_zero])
        (try simp only [Act.put])
        (try simp only [List.setIfInBounds_toArray])
        (repeat (first | simp only [List.set_cons_succ] | simp only [List.set_cons_zero]))
        refine wpD_ready (rs := [11]) (by kernel_rfl) (by kernel_rfl) ?_
        refine AllReadyD.cons rfl (fun K hK => ?_) AllReadyD.nil
        rw [if_pos (show _ = true by kernel_rfl)]
        go_simp
        with_reducible refine (HEN.out _ HW.out).mono ?_
        rintro r w9 ⟨⟨v9, rfl, hs9⟩, hbe⟩
        have HS9 := Lib.hid hs9
        have HD9 := Lib.hid (HDO.out _ _ HW.out hbe)
        have HV := Lib.hid (bl_trans HW.out hbe)
        have HWQ := HW
        obtain ⟨a9, n9, c9, hv9⟩ : ∃ a n c, v9 = .slice a n c := by
          obtain ⟨a, c, _, _, e, -⟩ := hs9
          exact ⟨a, _, c, e⟩
        subst hv9
        have hgq := lt_of_heap HYB.out; have HYC := Lib.hid ((hbe.block _ hgq).trans HYB.out); clear HYB; have HYB := HYC; clear HYC
        clear hbe HW hs9
        have HW := HV
        clear HV
        clear hHeld
        refine hK.out _ _ ⟨fun _ => HW.out, fun h => absurd h (by decide)⟩ (fun hHeld0 => ?_)
        have hHeld := hHeld0.1 rfl
        clear hHeld0 hK K
        refine wpD_take (i := 12) (v := ?_) rfl (by kernel_rfl) (fun _ _ _ h => h) (Or.inl ⟨by kernel_rfl, ?_⟩) (by assumption) ?_
        rotate_left
        focus (intro w9 hS9; clear hS9; go_simp; (try with_reducible rfl))
        (try simp only [List.getElem_toArray, List.getElem_cons_succ, List.getElem_cons_zero])
        (try simp only [Act.put])
        (try simp only [List.setIfInBounds_toArray])
        (repeat (first | simp only [List.set_cons_succ] | simp only [List.set_cons_zero]))
        refine wpD_take (i := 13) (v := ?_) rfl (by kernel_rfl) (fun _ _ _ h => h) (Or.inl ⟨by kernel_rfl, ?_⟩) (by assumption) ?_
        rotate_left
        focus (intro w9 hS9; clear hS9; go_simp; (try with_reducible rfl))
        (try simp only [List.getElem_toArray, List.getElem_cons_succ, List.getElem_cons_zero])
        (try simp only [Act.put])
        (try simp only [List.setIfInBounds_toArray])
        (repeat (first | simp only [List.set_cons_succ] | simp only [List.set_cons_zero]))
        refine wpD_take (i := 14) (v := ?_) rfl (by kernel_rfl) (fun _ _ _ h => h) (Or.inl ⟨by kernel_rfl, ?_⟩) (by assumption) ?_
        rotate_left
        focus (intro w9 hS9; clear hS9; go_simp; (try with_reducible rfl))
        (try simp only [List.getElem_toArray, List.getElem_cons_succ, List.getElem_cons_zero])
        (try simp only [Act.put])
        (try simp only [List.setIfInBounds_toArray])
        (repeat (first | simp only [List.set_cons_succ] | simp only [List.set_cons_zero]))
        obtain ⟨y0, y1, yf⟩ := blk2 HYB.out
        have hgl := lt_of_heap HYB.out
        refine wpD_ready (rs := [16]) (by kernel_rfl) (by kernel_rfl) ?_
        refine AllReadyD.cons rfl (fun K hK => ?_) AllReadyD.nil
        rw [if_pos (show _ = true by kernel_rfl)]
        go_simp
        clear hHeld
        refine hK.out _ _ ⟨fun _ => bl_set (bl_set HW.out _ hgy) _ hgy, fun h => absurd h (by decide)⟩ (fun hHeld0 => ?_)
        have hHeld := hHeld0.1 rfl
        clear hHeld0 hK K
        refine wpD_ready (rs := [17]) (by kernel_rfl) (by kernel_rfl) ?_
        refine AllReadyD.cons rfl (fun K hK => ?_) AllReadyD.nil
        rw [if_pos (show _ = true by kernel_rfl)]
        go_simp
        clear hHeld
        refine hK.out _ _ ⟨fun _ => bl_set (bl_set HW.out _ hgy) _ hgy, fun h => absurd h (by decide)⟩ (fun hHeld0 => ?_)
        have hHeld := hHeld0.1 rfl
        clear hHeld0 hK K
        refine wpD_done (by kernel_rfl) ?_
        go_wp2_with (fail)
        go_meet
        exact ⟨_, _, rfl, rfl, ER.mk_set hPB.out HW.out HWQ.out.size hgy hgq HS9.out HD9.out HYB.out⟩
    · rw [if_pos (show _ = true by kernel_rfl)]
      go_simp
      clear hHeld
      refine hK.out _ _ ⟨fun _ => bl_alloc HW.out _, fun h => absurd h (by decide)⟩ (fun hHeld0 => ?_)
      have hHeld := hHeld0.1 rfl
      clear hHeld0 hK K
      have HYB := Lib.hid (show BB wB.heap.size (.slice none 0 0) (.slice none 0 0) (wB.alloc (.cells #[.slice none 0 0, .slice none 0 0] 70)).drew from heap_alloc_new wB (.cells #[.slice none 0 0, .slice none 0 0] 70))
      have HV := Lib.hid (Below.drew (bl_alloc (Below.refl wB.heap.size wB) (.cells #[.slice none 0 0, .slice none 0 0] 70)))
      have hgy : wB.heap.size ≤ wB.heap.size := Nat.le_refl _
      clear HW
      have HW := HV
      clear HV
      have hHeld : Below wB.heap.size wB (wB.alloc (.cells #[.slice none 0 0, .slice none 0 0] 70)).drew := HW.out
      generalize (wB.alloc (.cells #[.slice none 0 0, .slice none 0 0] 70)).drew = wy at HYB HW hHeld ⊢
      refine wpD_ready (rs := [6]) (by kernel_rfl) (by kernel_rfl) ?_
      refine AllReadyD.cons rfl (fun K hK => ?_) AllReadyD.nil
      rw [if_pos (show _ = true by kernel_rfl)]
      go_simp
      with_reducible refine (HVB.out _ HW.out).mono ?_
      rintro r w7 ⟨rfl, hbv⟩
      have HV := Lib.hid (bl_trans HW.out hbv)
      have hgq := lt_of_heap HYB.out; have HYC := Lib.hid ((hbv.block _ hgq).trans HYB.out); clear HYB; have HYB := HYC; clear HYC
      clear hbv HW
      have HW := HV
      clear HV
      clear hHeld
      refine hK.out _ _ ⟨fun _ => HW.out, fun h => absurd h (by decide)⟩ (fun hHeld0 => ?_)
      have hHeld := hHeld0.1 rfl
      clear hHeld0 hK K
      refine wpD_ready (rs := [7]) (by kernel_rfl) (by kernel_rfl) ?_
      refine AllReadyD.cons rfl (fun K hK => ?_) AllReadyD.nil
      rw [if_pos (show _ = true by kernel_rfl)]
      go_simp
      with_reducible refine (HFM.out _).mono ?_
      rintro r w8 ⟨rfl, rfl⟩
      clear hHeld
      refine hK.out _ _ ⟨fun _ => HW.out, fun h => absurd h (by decide)⟩ (fun hHeld0 => ?_)
      have hHeld := hHeld0.1 rfl
      clear hHeld0 hK K
      refine wpD_take (i := 8) (v := ?_) rfl (by kernel_rfl) (fun _ _ _ h => h) (Or.inl ⟨by kernel_rfl, ?_⟩) (by assumption) ?_
      rotate_left
      focus (intro w9 hS9; clear hS9; go_simp; (try with_reducible rfl))
      (try simp only [List.getElem_toArray, List.getElem_cons_succ, List.getElem_cons_zero])
      (try simp only [Act.put])
      (try simp only [List.setIfInBounds_toArray])
      (repeat (first | simp only [List.set_cons_succ] | simp only [List.set_cons_zero]))
      refine wpD_ready (rs := [11]) (by kernel_rfl) (by kernel_rfl) ?_
      refine AllReadyD.cons rfl (fun K hK => ?_) AllReadyD.nil
      rw [if_pos (show _ = true by kernel_rfl)]
      go_simp
      with_reducible refine (HEN.out _ HW.out).mono ?_
      rintro r w9 ⟨⟨v9, rfl, hs9⟩, hbe⟩
      have HS9 := Lib.hid hs9
      have HD9 := Lib.hid (HDO.out _ _ HW.out hbe)
      have HV := Lib.hid (bl_trans HW.out hbe)
      have HWQ := HW
      obtain ⟨a9, n9, c9, hv9⟩ : ∃ a n c, v9 = .slice a n c := by
        obtain ⟨a, c, _, _, e, -⟩ := hs9
        exact ⟨a, _, c, e⟩
      subst hv9
      have hgq := lt_of_heap HYB.out; have HYC := Lib.hid ((hbe.block _ hgq).trans HYB.out); clear HYB; have HYB := HYC; clear HYC
      clear hbe HW hs9
      have HW := HV
      clear HV
      clear hHeld
      refine hK.out _ _ ⟨fun _ => HW.out, fun h => absurd h (by decide)⟩ (fun hHeld0 => ?_)
      have hHeld := hHeld0.1 rfl
      clear hHeld0 hK K
      refine wpD_take (i := 12) (v := ?_) rfl (by kernel_rfl) (fun _ _ _ h => h) (Or.inl ⟨by kernel_rfl, ?_⟩) (by assumption) ?_
      rotate_left
      focus (intro w9 hS9; clear hS9; go_simp; (try with_reducible rfl))
      (try simp only [List.getElem_toArray, List.getElem_cons_succ, List.getElem_cons_zero])
      (try simp only [Act.put])
      (try simp only [List.setIfInBounds_toArray])
      (repeat (first | simp only [List.set_cons_succ] | simp only [List.set_cons_zero]))
      refine wpD_take (i := 13) (v := ?_) rfl (by kernel_rfl) (fun _ _ _ h => h) (Or.inl ⟨by kernel_rfl, ?_⟩) (by assumption) ?_
      rotate_left
      focus (intro w9 hS9; clear hS9; go_simp; (try with_reducible rfl))
      (try simp only [List.getElem_toArray, List.getElem_cons_succ, List.getElem_cons_zero])
      (try simp only [Act.put])
      (try simp only [List.setIfInBounds_toArray])
      (repeat (first | simp only [List.set_cons_succ] | simp only [List.set_cons_zero]))
      refine wpD_take (i := 14) (v := ?_) rfl (by kernel_rfl) (fun _ _ _ h => h) (Or.inl ⟨by kernel_rfl, ?_⟩) (by assumption) ?_
      rotate_left
      focus (intro w9 hS9; clear hS9; go_simp; (try with_reducible rfl))
      (try simp only [List.getElem_toArray, List.getElem_cons_succ, List.getElem_cons_zero])
      (try simp only [Act.put])
      (try simp only [List.setIfInBounds_toArray])
      (repeat (first | simp only [List.set_cons_succ] | simp only [List.set_cons_zero]))
      obtain ⟨y0, y1, yf⟩ := blk2 HYB.out
      have hgl := lt_of_heap HYB.out
      refine wpD_ready (rs := [16]) (by kernel_rfl) (by kernel_rfl) ?_
      refine AllReadyD.cons rfl (fun K hK => ?_) AllReadyD.nil
      rw [if_pos (show _ = true by kernel_rfl)]
      go_simp
      clear hHeld
      refine hK.out _ _ ⟨fun _ => bl_set (bl_set HW.out _ hgy) _ hgy, fun h => absurd h (by decide)⟩ (fun hHeld0 => ?_)
      have hHeld := hHeld0.1 rfl
      clear hHeld0 hK K
      refine wpD_ready (rs := [17]) (by kernel_rfl) (by kernel_rfl) ?_
      refine AllReadyD.cons rfl (fun K hK => ?_) AllReadyD.nil
      rw [if_pos (show _ = true by kernel_rfl)]
      go_simp
      clear hHeld
      refine hK.out _ _ ⟨fun _ => bl_set (bl_set HW.out _ hgy) _ hgy, fun h => absurd h (by decide)⟩ (fun hHeld0 => ?_)
      have hHeld := hHeld0.1 rfl
      clear hHeld0 hK K
      refine wpD_done (by kernel_rfl) ?_
      go_wp2_with (fail)
      go_meet
      exact ⟨_, _, rfl, rfl, ER.mk_set hPB.out HW.out HWQ.out.size hgy hgq HS9.out HD9.out HYB.out⟩
  case rest =>
    obtain ⟨gy, v9, rfl, rfl, her⟩ := hcut
    have HS10 := Lib.hid (HSB.out.step her.b)
    have HR10 := Lib.hid her
    obtain ⟨a9, n9, c9, hv9⟩ : ∃ a n c, v9 = .slice a n c := by
      obtain ⟨a, c, _, _, e, -⟩ := her.se
      exact ⟨a, _, c, e⟩
    subst hv9
    have hgl := lt_of_heap her.g
    have hgw := her.lo
    have hltB := HSB.out.lt
    obtain ⟨y0, y1, yf⟩ := blk2 her.g
    clear her HVB HFM HEN HDO HLB HW hPB
    by_cases hz9 : z9 = 0
    case neg =>
      have HR := Lib.hid ((HAS.out es9 z9 (by rw [HPO.out]; exact HEQ.out)).trans (if_pos hz9))
      have hz2 : (z9 != 0) = true := by simpa using hz9
      obtain ⟨wc', hwc⟩ : ∃ w', wc = w' := ⟨_, rfl⟩
      have HYX := Lib.hid HS10.out.y
      have HBX := Lib.hid HS10.out.b
      obtain ⟨d0, d1, -⟩ := blk2 HYX.out.b1
      obtain ⟨f0, f1, ff⟩ := blk2 HYX.out.b2
      have f0' : wc.cell? ⟨w.heap.size + 1 + 1, 0, none⟩ = some (.slice none 0 0) := f0
      have f1' : wc.cell? ⟨w.heap.size + 1 + 1, 1, none⟩ = some (.slice none 0 0) := f1
      have ff' : ∀ j, wc.frozen? ⟨w.heap.size + 1 + 1, j, none⟩ = false := ff
      have hl2 : w.heap.size + 1 + 1 < wc.heap.size := HS10.out.lt
      clear hz9 hwc f0 f1 ff
      go_wp2
      have g5 : ((wc.setCell ⟨w.heap.size + 1 + 1, 0, none⟩ (.slice ae es.length ce)).setCell ⟨w.heap.size + 1 + 1, 1, none⟩ (.slice ad ds.length cd)).heap[w.heap.size + 1 + 1]? = some (.cells #[(.slice ae es.length ce), (.slice ad ds.length cd)] 70 (0, 0)) := heap_setCell_same _ _ _ _ _ _ (heap_setCell_same _ _ _ _ _ _ HYX.out.b2)
      have b5 : Below w.heap.size w ((wc.setCell ⟨w.heap.size + 1 + 1, 0, none⟩ (.slice ae es.length ce)).setCell ⟨w.heap.size + 1 + 1, 1, none⟩ (.slice ad ds.length cd)) := bl_set (bl_set HBX.out _ (by simp only; omega)) _ (by simp only; omega)
      obtain ⟨k0, k1, -⟩ := blk2 g5
      generalize (wc.setCell ⟨w.heap.size + 1 + 1, 0, none⟩ (.slice ae es.length ce)).setCell ⟨w.heap.size + 1 + 1, 1, none⟩ (.slice ad ds.length cd) = w9 at *
      refine bodyPost_ret (v := .tuple #[.agg #[(.slice ae es.length ce), (.slice ad ds.length cd)], .int .i64 z9]) (by simp [results, Tryz.results42, go_sem, k0, k1]) rfl ?_
      rw [HR.out]
      exact BookR.old HE.out HD.out b5
    subst hz9
    have HR := Lib.hid ((HAS.out es9 0 (by rw [HPO.out]; exact HEQ.out)).trans (if_neg (by simp)))
    have hse := HR10.out.se
    rw [if_pos (by trivial)] at hse
    have HSE := Lib.hid hse
    clear hse
    have hw10 := HS10.out.b.size
    have o0 : OwnSl (tChg eL) 49 wc.heap.size (wc.alloc (.cells #[] 49)) (.slice (some ⟨wc.heap.size, 0, none⟩) 0 0) [] := OwnSl.lit (css := []) rfl trivial (Nat.le_refl _) (by decide)
    have HP0 := Lib.hid (show OwnP (tChg eL) 49 wc.heap.size (fun k => (k < w.heap.size ∧ R k) ∨ wc.heap.size ≤ k) _ _ [] from OwnP.ofNil o0)
    have HAl := Lib.hid (bl_alloc (Below.refl wc.heap.size wc) (.cells #[] 49))
    have HRW := Lib.hid (show ∀ q, wc.heap.size ≤ q → ((q < w.heap.size ∧ R q) ∨ wc.heap.size ≤ q) from fun q hq => .inr hq)
    clear o0 y0 y1 yf
    go_upto_region 12 with (fail)
    generalize wc.alloc (.cells #[] 49) = w11 at HP0 HAl ⊢
    have hz11 := HAl.out.size
    go_wp2
    go_loopg [15, 16] ds.length (fun g sv i wr => ∃ k : Nat, k + g = ds.length ∧ i = .int .i64 k ∧ OwnP (tChg eL) 49 wc.heap.size (fun k => (k < w.heap.size ∧ R k) ∨ wc.heap.size ≤ k) wr sv (delK s (ds.take k)) ∧ Hid (Below wc.heap.size wc wr))
    case atStart => exact ⟨0, by omega, rfl, HP0.out, HAl⟩
    case round =>
      obtain ⟨k, hk, rfl, hn, HBW⟩ := hrel
      have HN := Lib.hid hn
      obtain ⟨aO, cO, rfl, -⟩ := hn.form
      have hol : (delK s (ds.take k)).length ≤ k := Nat.le_trans (delK_len _ _) (by rw [List.length_take]; omega)
      have HWW := Lib.hid (HS10.out.b.trans (HBW.out.mono hw10))
      have hd8 := HBK.out.ds
      simp only at hd8
      have gx := (HBW.out.block _ hgl).trans HR10.out.g
      obtain ⟨y0, y1, yf⟩ := blk2 gx
      clear hn gx
      by_cases hlt : k < ds.length
      · obtain ⟨rfl, -, hbi, hok, hv, hsl, d0, d1, d2, d3, d4, d5, d6⟩ := HDD.out wr (fun q hq => HWW.out.block q hq.2) k hlt
        have k0 : (0 : Int) ≤ (k : Int) := by omega
        have k1 : (k : Int) < (ds.length : Int) := by omega
        have HT := Lib.hid (delK_take (s := s) hlt)
        generalize ds[k] = y at *
        obtain ⟨hva, hvn, hvc, hve⟩ : ∃ a n c, hv = .slice a n c := by
          obtain ⟨a, c, _, _, e, -⟩ := hsl
          exact ⟨a, _, c, e⟩
        subst hve
        have hwz : wc.heap.size ≤ wr.heap.size := HBW.out.size
        obtain ⟨b, hbq⟩ : ∃ b, (y.key.toList == s.toList) = b := ⟨_, rfl⟩
        have HKE := Lib.hid (show decide (y.key = s) = b by rw [← hbq, eq_str])
        cases b with
        | true =>
          clear hok hsl
          go_wp2
          go_roundg (ds.length - (k + 1))
          case measure => omega
          case rel => exact ⟨k + 1, by omega, by go_num, by rw [HT.out, if_pos (by simpa using HKE.out)]; exact HN.out, HBW⟩
        | false =>
          have HR0 := HRW
          have HDY := Lib.hid (show (tChg eL).is (fun q => ((q < w.heap.size ∧ R q) ∨ wc.heap.size ≤ q) ∧ q < wr.heap.size ∧ some q ≠ (Value.slice aO (delK s (ds.take k)).length cO).ownBlock) wr (cCells y (.slice hva hvn hvc)) y from tChg_mk hok (hsl.keep (fun q hq => ⟨.inl ⟨hq.2, hq.1⟩, by have := hq.2; omega, fun e => by have := (OwnS.own_lt HN.out q e.symm).1; have := hq.2; omega⟩) (fun q hq => rfl)))
          clear hok hsl
          go_wp2_with (at_builtin
                       refine wpList_append_P (.tmp 81) (.tmp 87) rfl 52 rfl slChg rfl HN.out HR0.out rfl HDY.out (by omega) (by unfold maxLen; omega) hwz ?_
                       intro v5 w5 hn5 hb5
                       obtain ⟨a5, c5, rfl, -⟩ := hn5.form
                       have HN5 := Lib.hid hn5
                       have HB5 := Lib.hid (HBW.out.trans hb5)
                       clear hn5 hb5)
          go_roundg (ds.length - (k + 1))
          case measure => omega
          case rel => exact ⟨k + 1, by omega, by go_num, by rw [HT.out, if_neg (by simpa using HKE.out)]; have h := HN5.out; rw [List.length_append] at h; exact h, HB5⟩
      · have hkd : decide ((k : Int) < (ds.length : Int)) = false := by simp; omega
        rw [show ds.take k = ds from List.take_of_length_le (by omega)] at HN hol ⊢
        have HSA := Lib.hid (HS10.out.step HBW.out)
        have HG11 := Lib.hid (show BB gy (.slice a9 n9 c9) (.slice ad ds.length cd) wr from (HBW.out.block _ hgl).trans HR10.out.g)
        have HE11 := Lib.hid (HSE.out.keep (S' := fun k => ((k < w.heap.size ∧ R k) ∨ wB.heap.size ≤ k) ∧ k ≠ gy ∧ k < wr.heap.size) (fun q h => ⟨h.1, h.2.1, Nat.lt_of_lt_of_le h.2.2 HBW.out.size⟩) (fun q h => HBW.out.block q h.2.2))
        have HS11 := Lib.hid (HN.out.sl HRW.out)
        have hgl11 := lt_of_heap HG11.out
        have hzr : wc.heap.size ≤ wr.heap.size := HBW.out.size
        have HDE := Lib.hid (show delK s ds = ds.filter fun x => !decide (x.key = s) from rfl)
        rw [← HDE.out] at HR
        generalize delK s ds = dl at *
        go_upto_region 18 with (fail)
        have hne : w.heap.size + 2 ≠ gy := by omega
        have g12 : (wr.setCell ⟨gy, 1, none⟩ (.slice aO dl.length cO)).heap[gy]? = some (.cells #[.slice a9 n9 c9, .slice aO dl.length cO] 70 (0, 0)) := heap_setCell_same _ _ _ _ _ _ HG11.out
        have e12 : BB (w.heap.size + 2) (.slice none 0 0) (.slice none 0 0) (wr.setCell ⟨gy, 1, none⟩ (.slice aO dl.length cO)) := (Below.heap_setCell _ _ _ _ hne).trans HSA.out.y.b2
        have b12 : Below w.heap.size w (wr.setCell ⟨gy, 1, none⟩ (.slice aO dl.length cO)) := bl_set HSA.out.b _ (by simp only; omega)
        have h12 : ∀ q, q ≠ gy → (wr.setCell ⟨gy, 1, none⟩ (.slice aO dl.length cO)).heap[q]? = wr.heap[q]? := fun q hq => Below.heap_setCell _ _ _ _ hq
        have z12 : (wr.setCell ⟨gy, 1, none⟩ (.slice aO dl.length cO)).heap.size = wr.heap.size := by simp
        clear y0 y1 yf
        generalize wr.setCell ⟨gy, 1, none⟩ (.slice aO dl.length cO) = w12 at g12 e12 b12 h12 z12 ⊢
        obtain ⟨y0, y1, -⟩ := blk2 g12
        obtain ⟨e0, e1, ef⟩ := blk2 e12
        have e0' : w12.cell? ⟨w.heap.size + 1 + 1, 0, none⟩ = some (.slice none 0 0) := e0
        have e1' : w12.cell? ⟨w.heap.size + 1 + 1, 1, none⟩ = some (.slice none 0 0) := e1
        have ef' : ∀ j, w12.frozen? ⟨w.heap.size + 1 + 1, j, none⟩ = false := ef
        have hl12 : w.heap.size + 1 + 1 < w12.heap.size := lt_of_heap e12
        have H12 := Lib.hid h12
        have Z12 := Lib.hid z12
        have B12 := Lib.hid b12
        have E12 := Lib.hid e12
        clear e0 e1 ef h12 b12 z12 e12 g12
        go_wp2
        have g5 : ((w12.setCell ⟨w.heap.size + 1 + 1, 0, none⟩ (.slice a9 n9 c9)).setCell ⟨w.heap.size + 1 + 1, 1, none⟩ (.slice aO dl.length cO)).heap[w.heap.size + 1 + 1]? = some (.cells #[.slice a9 n9 c9, .slice aO dl.length cO] 70 (0, 0)) := heap_setCell_same _ _ _ _ _ _ (heap_setCell_same _ _ _ _ _ _ E12.out)
        have b5 : Below w.heap.size w ((w12.setCell ⟨w.heap.size + 1 + 1, 0, none⟩ (.slice a9 n9 c9)).setCell ⟨w.heap.size + 1 + 1, 1, none⟩ (.slice aO dl.length cO)) := bl_set (bl_set B12.out _ (by simp only; omega)) _ (by simp only; omega)
        have hoth : ∀ q, q ≠ gy → q ≠ w.heap.size + 2 → ((w12.setCell ⟨w.heap.size + 1 + 1, 0, none⟩ (.slice a9 n9 c9)).setCell ⟨w.heap.size + 1 + 1, 1, none⟩ (.slice aO dl.length cO)).heap[q]? = wr.heap[q]? := fun q h1 h2 => ((Below.heap_setCell _ _ _ _ h2).trans (Below.heap_setCell _ _ _ _ h2)).trans (H12.out q h1)
        have hz5 : wr.heap.size = ((w12.setCell ⟨w.heap.size + 1 + 1, 0, none⟩ (.slice a9 n9 c9)).setCell ⟨w.heap.size + 1 + 1, 1, none⟩ (.slice aO dl.length cO)).heap.size := by simp [Z12.out]
        obtain ⟨k0, k1, -⟩ := blk2 g5
        clear y0 y1 e0' e1' ef'
        generalize (w12.setCell ⟨w.heap.size + 1 + 1, 0, none⟩ (.slice a9 n9 c9)).setCell ⟨w.heap.size + 1 + 1, 1, none⟩ (.slice aO dl.length cO) = wf at *
        refine bodyPost_ret (v := .tuple #[.agg #[.slice a9 n9 c9, .slice aO dl.length cO], .int .i64 0]) (by simp [results, Tryz.results42, go_sem, k0, k1]) rfl ?_
        rw [HR.out]
        exact ⟨_, _, rfl, HE11.out.keep (fun q h => ⟨h.1.elim (fun h => h.2) (fun h => HRR.out q (by omega)), by omega⟩) (fun q h => hoth q h.2.1 (by rcases h.1 with h | h <;> omega)), HS11.out.keep (fun q h => ⟨h.1.elim (fun h => h.2) (fun h => HRR.out q (by omega)), by omega⟩) (fun q h => hoth q (by rcases h.1 with h | h <;> omega) (by rcases h.1 with h | h <;> omega)), b5⟩
end Go.Proofs.YtifcelebfagjbaaGreatDoor
/-
  Layer 31: the reference's One, of equal charges.
-/
namespace Go.Proofs.YtifcelebfagjbaaGreatDoor
open Go.RowKit Go.Tw Go.Tw.Ord Go.Tw.Po Go.Sort
set_option maxRecDepth 100000 in
set_option maxHeartbeats 2000000 in
theorem sameC_any (x : Chg) (v1 v2 : Value) (w : World) (h1 : SlIs tSI (· < w.heap.size) w v1 x.ls) (h2 : SlIs tSI (· < w.heap.size) w v2 x.ls) :
    Calls Tryz.prog 59 #[.agg #[.string x.key, .string x.veh, .string x.sys, .int .i64 x.cls, .int .i64 x.tm, v1, .int .i64 x.c], .agg #[.string x.key, .string x.veh, .string x.sys, .int .i64 x.cls, .int .i64 x.tm, v2, .int .i64 x.c]] w fun e w' => e = .returned (.bool true) ∧ Below w.heap.size w w' := by
  obtain ⟨ao1, cap1, b1, off1, rfl, p1, p2, ho1⟩ := si_open h1
  obtain ⟨ao2, cap2, b2, off2, rfl, q1, q2, ho2⟩ := si_open h2
  unfold maxLen at p2 q2
  have HO1 := Lib.hid ho1
  have HO2 := Lib.hid ho2
  have HB := Lib.hid (bl_alloc (bl_alloc (Below.refl w.heap.size w) (.cells #[.string x.key, .string x.veh, .string x.sys, .int .i64 x.cls, .int .i64 x.tm, .slice ao1 x.ls.length cap1, .int .i64 x.c] 49)) (.cells #[.string x.key, .string x.veh, .string x.sys, .int .i64 x.cls, .int .i64 x.tm, .slice ao2 x.ls.length cap2, .int .i64 x.c] 49))
  have n0 := heap_alloc2_old w (.cells #[.string x.key, .string x.veh, .string x.sys, .int .i64 x.cls, .int .i64 x.tm, .slice ao1 x.ls.length cap1, .int .i64 x.c] 49) (.cells #[.string x.key, .string x.veh, .string x.sys, .int .i64 x.cls, .int .i64 x.tm, .slice ao2 x.ls.length cap2, .int .i64 x.c] 49)
  have n1 := heap_alloc2_new w (.cells #[.string x.key, .string x.veh, .string x.sys, .int .i64 x.cls, .int .i64 x.tm, .slice ao1 x.ls.length cap1, .int .i64 x.c] 49) (.cells #[.string x.key, .string x.veh, .string x.sys, .int .i64 x.cls, .int .i64 x.tm, .slice ao2 x.ls.length cap2, .int .i64 x.c] 49)
  have HN0 := Lib.hid n0
  have HN1 := Lib.hid n1
  have k1 : (x.key.toList == x.key.toList) = true := by simp
  have k4 : (x.veh.toList == x.veh.toList) = true := by simp
  have k5 : (x.sys.toList == x.sys.toList) = true := by simp
  have k2 : (x.tm == x.tm) = true := by simp
  have k3 : (x.tm != x.tm) = false := by simp
  clear h1 h2 ho1 ho2 n0 n1
  go_enter Tryz.func59, Tryz.ntmps59
  go_wp2
  clear k1 k2 k3 k4 k5
  go_loopg [5] x.ls.length (fun g i wr => ∃ k : Nat, k + g = x.ls.length ∧ i = .int .i64 k ∧ Hid (wr.heap[w.heap.size]? = some (.cells #[.string x.key, .string x.veh, .string x.sys, .int .i64 x.cls, .int .i64 x.tm, .slice ao1 x.ls.length cap1, .int .i64 x.c] 49 (0, 0)) ∧ wr.heap[w.heap.size + 1]? = some (.cells #[.string x.key, .string x.veh, .string x.sys, .int .i64 x.cls, .int .i64 x.tm, .slice ao2 x.ls.length cap2, .int .i64 x.c] 49 (0, 0)) ∧ Below w.heap.size w wr))
  case atStart => exact ⟨0, by omega, rfl, Lib.hid ⟨HN0.out, HN1.out, HB.out⟩⟩
  case round =>
    obtain ⟨k, hk, rfl, HW⟩ := hrel
    clear HB HN0 HN1
    obtain ⟨-, -, -, -, -, c2, -⟩ := blk7 HW.out.1
    obtain ⟨-, -, -, -, -, d2, -⟩ := blk7 HW.out.2.1
    have hbw := HW.out.2.2
    by_cases hlt : k < x.ls.length
    · obtain ⟨rfl, -, hb1, -, y0, y1⟩ := HO1.out wr (.of_below hbw) k hlt
      obtain ⟨rfl, -, hb2, -, z0, z1⟩ := HO2.out wr (.of_below hbw) k hlt
      have k0 : (0 : Int) ≤ (k : Int) := by omega
      have k1 : (k : Int) < (x.ls.length : Int) := by omega
      have hke : (x.ls[k].s.toList == x.ls[k].s.toList) = true := by simp
      generalize x.ls[k].s = ys at *
      generalize x.ls[k].n = yn at *
      clear hbw
      go_wp2_with (go_quiet (fail))
      go_roundg (x.ls.length - (k + 1))
      case measure => omega
      case rel => exact ⟨k + 1, by omega, by go_num, Lib.hid ⟨HW.out.1, HW.out.2.1, bl_drewN HW.out.2.2 _⟩⟩
    · have hkd : decide ((k : Int) < (x.ls.length : Int)) = false := by simp; omega
      go_wp2
      go_ret
      exact ⟨rfl, hbw⟩
end Go.Proofs.YtifcelebfagjbaaGreatDoor
