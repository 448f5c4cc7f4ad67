/-
  Layer 10 (plate): the walk of Near.
-/
import Derived.Test.YthpmclhpagcbiaaPlateSort
import Derived.Deep.DeepCutAuto
namespace Go.Proofs.Ythpmclhpagcbiaa
open Go.RowKit Go.Tw Go.Tw.Plate

theorem slStr : SlT Try.prog 32 9 1 16 := SlT.of (z := .string ByteArray.empty) Try.underlying32 (by kernel_rfl) rfl (by decide)
/-- behind the plates 'seen': the map in block w.heap.size, its box behind it, the list of those near enough -/
structure NSt (w : World) (s : ByteArray) (seen : List ByteArray) (n : Nat) (o : Value) (out : List ByteArray) (wr : World) : Prop where
  own : OwnSl tStr 9 (w.heap.size + 2) wr o out
  map : MapIs kStr wr w.heap.size (farM s seen) n
  box : wr.heap[w.heap.size + 1]? = some (.cells #[.map (some w.heap.size)] 45 (0, 0))
  bel : Below w.heap.size w wr
theorem NSt.below {w : World} {s : ByteArray} {seen : List ByteArray} {n : Nat} {o : Value} {out : List ByteArray} {wr w' : World} (h : NSt w s seen n o out wr) (hb : Below wr.heap.size wr w') : NSt w s seen n o out w' :=
  ⟨h.own.below hb, h.map.below hb, Below.at_old hb h.box, bl_trans h.bel hb⟩
theorem NSt.drewN {w : World} {s : ByteArray} {seen : List ByteArray} {n : Nat} {o : Value} {out : List ByteArray} {wr : World} (h : NSt w s seen n o out wr) (m : Nat) : NSt w s seen n o out (wr.drewN m) := h.below (bl_drewN (Below.refl _ _) m)
theorem NSt.put {w : World} {s p : ByteArray} {seen : List ByteArray} {n : Nat} {o : Value} {out : List ByteArray} {wr w' : World} (h : NSt w s seen n o out wr)
    (hm : MapIs kStr w' w.heap.size (fun y => if y = p then some (.int .i64 (distS p s)) else farM s seen y) (n + 1)) (hg : wr.grownBy w' (some w.heap.size)) : NSt w s (seen ++ [p]) (n + 1) o out w' where
  own := h.own.grown hg (by
      cases ho : o.ownBlock with
      | none => exact .inl rfl
      | some g =>
        have := (h.own.own_lt g ho).1
        refine .inr fun e => ?_
        injection e with e
        omega) (fun css hc => AllIs.flat (fun h => h) hc)
  map := hm.ext (fun x => farM_new x)
  box := grown_at hg h.box (by intro e; injection e with e; omega)
  bel := h.bel.trans (Below.of_grown hg h.bel.size (fun k hk => by injection hk with hk; omega))
theorem NSt.old {w : World} {s p : ByteArray} {seen : List ByteArray} {n : Nat} {o : Value} {out : List ByteArray} {wr : World} (h : NSt w s seen n o out wr) (hp : p ∈ seen) : NSt w s (seen ++ [p]) (n + 1) o out wr :=
  { h with map := (h.map.mono (by omega)).ext (fun x => farM_old hp x) }
theorem NSt.push {w : World} {s : ByteArray} {seen : List ByteArray} {n : Nat} {o o' : Value} {out out' : List ByteArray} {wr w' : World} (h : NSt w s seen n o out wr)
    (ho : OwnSl tStr 9 (w.heap.size + 2) w' o' out') (hb : Below (w.heap.size + 2) wr w') : NSt w s seen n o' out' w' where
  own := ho
  map := h.map.kept (hb.block _ (by omega))
  box := (hb.block _ (by omega)).trans h.box
  bel := h.bel.trans (hb.mono (by omega))
set_option maxHeartbeats 2000000 in
theorem Near_any (l : List ByteArray) (s : ByteArray) (most : Int) (v : Value) (w : World) (h : SlIs tStr (· < w.heap.size) w v l) (hlen : l.length ≤ 1000) (hl : ∀ x ∈ l, x.size ≤ 1000000) (hs : s.size ≤ 1000000) :
    Calls Try.prog 22 #[v, .string s, .int .i64 most] w fun e w' => ∃ v' r, e = .returned v' ∧ SlIs tStr (· < w'.heap.size) w' v' r ∧ NearOf s most l r ∧ Below w.heap.size w w' := by
  obtain ⟨ao, cap, b, off, rfl, h1, h2, ho⟩ := strs_open h
  unfold maxLen at h2
  clear h
  have hmm := @run_makeMap Try.prog
  go_enter Try.func22, Try.ntmps22
  go_wp2
  clear hmm
  go_loopg [16, 8] l.length (fun g i o wr => ∃ (k : Nat) (out : List ByteArray), k + g = l.length ∧ i = .int .i64 k ∧ NearSet s most (l.take k) out ∧ out.length ≤ k ∧ NSt w s (l.take k) k o out wr)
  case atStart =>
    exact ⟨0, [], by omega, rfl, NearSet.start s most, by simp, OwnSl.nil _ _ _ _, (MapIs.made _).alloc _, alloc2_1 _ _ _, bl_alloc (bl_alloc (Below.refl _ _) _) _⟩
  case round =>
    obtain ⟨k, out, hk, rfl, hns, hok, hst⟩ := hrel
    have HN := Lib.hid hns; clear hns
    have HS := Lib.hid hst
    have hbx := (blk1 hst.box).1
    have hwz := lt_of_heap hst.box
    by_cases hlt : k < l.length
    · obtain ⟨rfl, -, hx1, c0, -⟩ := ho wr (.of_below hst.bel) k hlt
      clear ho
      obtain ⟨oa, oc, rfl, ho1, ho2⟩ := hst.own.form
      unfold maxLen at ho2
      have hm := hst.map
      clear hst
      have hsz := Lib.hid (hl _ (List.getElem_mem hlt))
      have HT := Lib.hid (List.take_succ_eq_append_getElem hlt)
      have hlk : (Instr.lookup 45 (.map (some w.heap.size)) (.string l[k]) true).run Try.prog wr = .ok (.tuple #[((farM s (l.take k)) l[k]).getD (.int .i64 0), .bool ((farM s (l.take k)) l[k]).isSome]) wr := by
        have := hm.look Try.underlying45 Try.underlying9 (z := .int .i64 0) (by kernel_rfl) l[k] true
        rwa [if_pos rfl] at this
      clear hm
      by_cases hin : l[k] ∈ l.take k
      · unfold farM at hlk
        rw [if_pos hin] at hlk
        have hlk' := hlk
        simp only [Option.getD_some, Option.isSome_some] at hlk'
        clear hlk
        have HI := Lib.hid hin; clear hin
        go_wp2
        go_roundg (l.length - (k + 1))
        case measure => omega
        case rel => exact ⟨k + 1, out, by omega, by go_num, by rw [HT.out]; exact HN.out.old HI.out, by omega, by rw [HT.out]; exact HS.out.old HI.out⟩
      · unfold farM at hlk
        rw [if_neg hin] at hlk
        have hlk' := hlk
        simp only [Option.getD_none, Option.isSome_none] at hlk'
        have HI := Lib.hid (show l[k] ∉ out from fun q => hin ((HN.out.2 _).1 q).1)
        clear hlk hin
        go_upto_region 8 with (fail)
        go_cut [8] (fun o2 wx => o2 = .slice oa out.length oc ∧ NSt w s (l.take (k + 1)) (k + 1) (.slice oa out.length oc) out wx)
        case first =>
          go_region_with (
            first
            | (go_at_call 16
               (
                 refine (Distance_any _ _ _ hsz.out hs).mono ?_
                 rintro e w2 ⟨rfl, hb2⟩
                 have hs2 := NSt.below (wr := World.drewN wr 1) (HS.out.drewN 1) hb2
                 obtain ⟨w3, hput, hm3, hg3⟩ := hs2.map.put (P := Try.prog) (t := 45) Try.underlying45 Try.underlying9 l[k] (.int .i64 (distS l[k] s))
                 have hs3 := Lib.hid (hs2.put hm3 hg3)
                 have hbx2 := (blk1 hs2.box).1
                 clear hs2 hm3 hg3
                 change (Instr.mapUpdate 45 (.map (some w.heap.size)) (.string l[k]) (.int .i64 (distS l[k] s))).run Try.prog w2 = _ at hput)))
          all_goals
            go_wp2
            go_meet
            exact ⟨rfl, by rw [HT.out]; exact hs3.out⟩
        case rest =>
          obtain ⟨rfl, hst⟩ := hcut
          clear hlk' HS hbx hwz c0
          have HS := Lib.hid hst
          have hbx := (blk1 hst.box).1
          have hwz := lt_of_heap hst.box
          have hlk := reads_look hst.map (far_reads s (l.take (k + 1))) l[k]
          rw [show farI s (l.take (k + 1)) l[k] = distS l[k] s from by unfold farI; rw [if_pos (List.mem_take_iff_getElem.mpr ⟨k, by omega, rfl⟩)]] at hlk
          clear hst
          by_cases hms : distS l[k] s ≤ most
          · have HD := Lib.hid hms
            go_wp2_with (
              at_builtin
              refine wpList_append_one (.tmp 37) (.tmp 39) rfl 32 rfl slStr rfl HS.out.own rfl (S := fun _ => False) ⟨rfl, by have := hsz.out; unfold maxLen; omega⟩ (fun _ h => h.elim) (by omega) (by unfold maxLen; omega) (by omega) ?_
              intro v' w2 ho2 hg2 hb2)
            go_roundg (l.length - (k + 1))
            case measure => omega
            case rel => exact ⟨k + 1, out ++ [l[k]], by omega, by go_num, by rw [HT.out]; exact HN.out.new HI.out HD.out, by simp; omega, HS.out.push ho2 hb2⟩
          · have HD := Lib.hid hms
            go_wp2
            go_roundg (l.length - (k + 1))
            case measure => omega
            case rel => exact ⟨k + 1, out, by omega, by go_num, by rw [HT.out]; exact HN.out.far (fun q => absurd HD.out (by omega)), by omega, HS.out⟩
    · obtain rfl : k = l.length := by omega
      rw [List.take_length] at HN HS
      clear hlt hk ho hbx
      have hmap := hst.map
      rw [List.take_length] at hmap
      have hbx := (blk1 hst.box).1
      have hbel := hst.bel
      rcases own_holds hst.own with ⟨rfl, rfl⟩ | ⟨g, cp, rfl, p1, p2, p3, p4, p5, p6⟩
      · clear hst hmap hbx
        go_wp2_with (go_at_call 32; refine (sortFunc_nil _ _ _).mono ?_; rintro e w' ⟨rfl, rfl⟩)
        go_ret
        exact ⟨_, [], rfl, SlIs.nil, ⟨HN.out, List.Pairwise.nil⟩, hbel⟩
      · clear hst
        have hlay := near_lays (farM s l) (farI s l) (far_reads s l) wr (w.heap.size + 1) w.heap.size l.length g 0 out.toArray.size hbx hwz hmap (by omega) (by omega)
        have hsrt := Try.slices_SortFunc Value.string (fun _ => rfl) (nearC (farI s l)) (near_swo _) 33 #[.pointer (some ⟨w.heap.size + 1, 0, none⟩)] g 0 cp out.toArray wr (fun _ _ => rfl) hlay p6 p4 (by simp; omega)
        have HSRT := Lib.hid hsrt
        have HSP6 := Lib.hid p6
        have HB := Lib.hid hbel
        clear hlay hsrt p6 hbx hmap hbel
        go_wp2_with (go_at_call 32; refine (HSRT.out).mono ?_; rintro e w' ⟨rfl, d', n', os, hp, hso, rfl⟩)
        have hlen : out.length = d'.toList.length := by simpa using hp.1.symm
        have hpm := perm_of hp
        have hnp : NearOf s most l d'.toList := by
          refine ⟨HN.out.mem (hpm.nodup_iff.2 HN.out.1) (fun x => hpm.mem_iff), ?_⟩
          refine (sorted_of hp.1 hso).imp_of_mem fun {x y} hx hy q => ?_
          rw [far_lt ((HN.out.2 y).1 (hpm.mem_iff.1 hy)).1 ((HN.out.2 x).1 (hpm.mem_iff.1 hx)).1] at q
          exact q
        have hsl := holds_sl (l := d'.toList) (cap := cp) (w := sortWorld Value.string wr g 0 n' d' os) (g := g) (by
          rw [Array.toArray_toList]
          exact holds_sortWorld Value.string wr g 0 n' out.toArray d' os p4 HSP6.out hp.1) (lt_sortWorld _ _ _ _ _ _ _ p4) (by omega) p2 (fun x hx => p5 x (hpm.mem_iff.1 hx))
        rw [← hlen] at hsl
        have hbl : Below w.heap.size w (sortWorld Value.string wr g 0 n' d' os) := HB.out.trans (sortWorld_below _ _ _ _ _ _ _ HB.out.size (by omega))
        have HA := Lib.hid hnp
        have HC := Lib.hid hsl
        have HE := Lib.hid hbl
        clear hlen hpm hnp hsl hbl hp hso
        go_ret
        exact ⟨_, d'.toList, rfl, HC.out, HA.out, HE.out⟩
end Go.Proofs.Ythpmclhpagcbiaa
