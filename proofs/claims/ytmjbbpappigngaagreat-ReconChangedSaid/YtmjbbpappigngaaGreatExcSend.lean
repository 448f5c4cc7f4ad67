/-
  Layer 43 (exchange): the walk of Send.
-/
import Derived.Test.YtmjbbpappigngaaGreatExcAck
namespace Go.Tw.Exc
open Go.RowKit Go.Tw
section
variable {α : Type} {T : Ty α} {e : TypeId} {B : Nat} {w : World} {S S' : Nat → Prop} {v : Value} {l : List α} {P : Program}
/-- ONE element, laid in a block of its own some time before, in a region that draws its order -/
theorem step_append_oneS {ops : Array Oper} {o : Oper} {a : Act} {K : Act → World → Prop} {Q : Exit → Act → World → Prop} {E : Prop} (s x : Operand) (hgd : o.guard = none) (t : TypeId)
    (ho : o.op = .call { callee := .builtin .append, args := #[s, x], argTypes := #[t, t] }) {bytes : Nat} (hT : SlT P t e T.sz bytes) {y : α} {v2 : Value} (hs : a.eval s = v) (hown : OwnS T e B S w v l) (hS : ∀ k, S k → k < w.heap.size ∧ some k ≠ v.ownBlock)
    (hx : a.eval x = v2) (hy : SlIs T S' w v2 [y]) (hS' : ∀ k, S' k → k < w.heap.size ∧ some k ≠ v.ownBlock) (hbytes : (l.length + 1) * bytes ≤ 140737488355328) (h63 : l.length + 1 ≤ maxLen) (hB : B ≤ w.heap.size)
    (h : ∀ v' w', OwnS T e B (fun k => S k ∨ S' k) w' v' (l ++ [y]) → w.grownBy w' v.ownBlock → (v'.ownBlock = v.ownBlock ∨ v'.ownBlock = some w.heap.size) → K (a.put o.dst v') w') :
    if Region.wanted o (yielded ops a.tmps) = true then Oper.wp P o a w K Q else E := by
  have hw : Region.wanted o (yielded ops a.tmps) = true := by simp [Region.wanted, hgd]
  rw [if_pos hw]
  obtain ⟨v', w', hr, h2, h3, h4⟩ := run_append_S (P := P) (ty := o.type) hT hown hS hy hS' (by simp) hbytes h63 hB
  unfold Oper.wp execOp
  simp only [ho, resolve, invoke, builtin, Sem.run_bind, Sem.run_pure, Result.andThen_ok, List.map_toArray, List.map_cons, List.map_nil, hs, hx, hr]
  exact h v' w' h2 h3 h4
end
theorem OwnL.toS {α : Type} {T : Ty α} {e : TypeId} {F : List Nat} {w : World} {v : Value} {l : List α} {B : Nat} (h : OwnL T e F w v l) (nd : F.Nodup) (hB : ∀ b ∈ F, B ≤ b) : OwnS T e B (fun k => k ∈ F ∧ some k ≠ v.ownBlock) w v l := by
  obtain ⟨css, Fs, h1, h2, rfl⟩ := h
  refine ⟨css, ⟨h1.1, ?_⟩, h2.is.widen (fun k hk => ⟨List.mem_append_right _ hk, fun e => ?_⟩)⟩
  · rcases h1.2 with q | ⟨g, cap, cur, rfl, hb, rest⟩
    · exact .inl q
    · exact .inr ⟨g, cap, cur, rfl, hB g (by simp [Value.ownBlock]), rest⟩
  · exact (List.nodup_append.1 nd).2.2 k (by rw [← e]; simp) k hk rfl
theorem send_c {p : Par} {fr : ByteArray} {l : List Rec} (h : checkC ⟨fr, p.nm, p.out, l⟩ ≠ 0) : sendC p fr l = (p, zeroF, checkC ⟨fr, p.nm, p.out, l⟩) := by unfold sendC; rw [if_pos h]
theorem send_l {p : Par} {fr : ByteArray} {l : List Rec} (h : checkC ⟨fr, p.nm, p.out, l⟩ = 0) (h2 : 1024 ≤ p.wt.length ∨ 1024 < p.ours.length + l.length) : sendC p fr l = (p, zeroF, 3) := by unfold sendC; rw [if_neg (by simp [h]), if_pos h2]
theorem send_y {p : Par} {fr : ByteArray} {l : List Rec} (h : checkC ⟨fr, p.nm, p.out, l⟩ = 0) (h2 : ¬ (1024 ≤ p.wt.length ∨ 1024 < p.ours.length + l.length)) : sendC p fr l = ({ p with out := p.out + 1, wt := p.wt ++ [⟨fr, p.nm, p.out, l⟩], ours := p.ours ++ l }, ⟨fr, p.nm, p.out, l⟩, 0) := by unfold sendC; rw [if_neg (by simp [h]), if_neg h2]
end Go.Tw.Exc
namespace Go.Proofs.YtmjbbpappigngaaGreat
open Go.RowKit Go.Tw Go.Tw.Exc
/-- a partner, a file and a number are returned -/
def SE (w' : World) (e : Ending) (q : Par × Fil × Int) : Prop := ∃ vw vo vt vf, e = .returned (.tuple #[.agg #[.string q.1.nm, .int .i64 q.1.out, .int .i64 q.1.inn, vw, vo, vt], .agg #[.string q.2.1.fr, .string q.2.1.to, .int .i64 q.2.1.sq, vf], .int .i64 q.2.2]) ∧ ParOk (· < w'.heap.size) w' q.1 vw vo vt ∧ FilOk (· < w'.heap.size) w' q.2.1 vf
theorem se_mk {w' : World} {q : Par × Fil × Int} {p : Par} {f : Fil} {err : Int} {vw vo vt vf : Value} (h : q = (p, f, err)) (ho : ParOk (· < w'.heap.size) w' p vw vo vt) (hf : FilOk (· < w'.heap.size) w' f vf) : SE w' (.returned (.tuple #[.agg #[.string p.nm, .int .i64 p.out, .int .i64 p.inn, vw, vo, vt], .agg #[.string f.fr, .string f.to, .int .i64 f.sq, vf], .int .i64 err])) q := by
  subst h; exact ⟨_, _, _, _, rfl, ho, hf⟩
/-- .. and the partner's memory is that of S, or new; the file's is new -/
def SEs (S : Nat → Prop) (w w' : World) (e : Ending) (q : Par × Fil × Int) : Prop := ∃ vw vo vt vf, e = .returned (.tuple #[.agg #[.string q.1.nm, .int .i64 q.1.out, .int .i64 q.1.inn, vw, vo, vt], .agg #[.string q.2.1.fr, .string q.2.1.to, .int .i64 q.2.1.sq, vf], .int .i64 q.2.2]) ∧ ParOk (fun k => S k ∨ (w.heap.size ≤ k ∧ k < w'.heap.size)) w' q.1 vw vo vt ∧ FilOk (fun k => w.heap.size ≤ k ∧ k < w'.heap.size) w' q.2.1 vf
theorem ses_mk {S : Nat → Prop} {w w' : World} {q : Par × Fil × Int} {p : Par} {f : Fil} {err : Int} {vw vo vt vf : Value} (h : q = (p, f, err)) (ho : ParOk (fun k => S k ∨ (w.heap.size ≤ k ∧ k < w'.heap.size)) w' p vw vo vt) (hf : FilOk (fun k => w.heap.size ≤ k ∧ k < w'.heap.size) w' f vf) : SEs S w w' (.returned (.tuple #[.agg #[.string p.nm, .int .i64 p.out, .int .i64 p.inn, vw, vo, vt], .agg #[.string f.fr, .string f.to, .int .i64 f.sq, vf], .int .i64 err])) q := by
  subst h; exact ⟨_, _, _, _, rfl, ho, hf⟩
theorem SEs.se {w w' : World} {e : Ending} {q : Par × Fil × Int} (h : SEs (· < w.heap.size) w w' e q) (hb : Below w.heap.size w w') : SE w' e q := by
  obtain ⟨vw, vo, vt, vf, h1, h2, h3⟩ := h
  have := hb.size
  exact ⟨vw, vo, vt, vf, h1, h2.keep (fun k hk => by rcases hk with q | q <;> omega) (SameOn.refl _ _), h3.keep (fun k hk => hk.2) (SameOn.refl _ _)⟩
theorem filOk_zero {S : Nat → Prop} {w : World} : FilOk S w zeroF (.slice none 0 0) := ⟨by decide, by decide, by unfold i64ok zeroF; decide, SlIs.nil⟩
theorem alloc4_0 (w : World) (a b c d : Obj) : ((((w.alloc a).alloc b).alloc c).alloc d).heap[w.heap.size]? = some a := alloc1_old _ (alloc3_0 _ _ _ _)
theorem alloc4_1 (w : World) (a b c d : Obj) : ((((w.alloc a).alloc b).alloc c).alloc d).heap[w.heap.size + 1]? = some b := alloc1_old _ (alloc3_1 _ _ _ _)
theorem alloc4_2 (w : World) (a b c d : Obj) : ((((w.alloc a).alloc b).alloc c).alloc d).heap[w.heap.size + 1 + 1]? = some c := alloc1_old _ (alloc3_2 _ _ _ _)
theorem alloc4_3 (w : World) (a b c d : Obj) : ((((w.alloc a).alloc b).alloc c).alloc d).heap[w.heap.size + 1 + 1 + 1]? = some d := by simpa using alloc1_0 (((w.alloc a).alloc b).alloc c) d
theorem keep6 {w : World} {b : Nat} {q : Addr} {u x0 x1 x2 x3 x4 x5 : Value} (h : w.cell? q = some u) (hne : q.block ≠ b) :
    ((((((w.setCell ⟨b, 0, none⟩ x0).setCell ⟨b, 1, none⟩ x1).setCell ⟨b, 2, none⟩ x2).setCell ⟨b, 3, none⟩ x3).setCell ⟨b, 4, none⟩ x4).setCell ⟨b, 5, none⟩ x5).cell? q = some u := (World.cell?_of_block (set6_ne hne)).trans h
theorem keep4 {w : World} {b : Nat} {q : Addr} {u x0 x1 x2 x3 : Value} (h : w.cell? q = some u) (hne : q.block ≠ b) :
    ((((w.setCell ⟨b, 0, none⟩ x0).setCell ⟨b, 1, none⟩ x1).setCell ⟨b, 2, none⟩ x2).setCell ⟨b, 3, none⟩ x3).cell? q = some u := keepS (keepS (keepS (keepS h hne) hne) hne) hne
/-- behind the append to Waiting: box b0 holds the partner, b1 and b2 wait for the results, b3 holds the file -/
structure SX (w : World) (p : Par) (f : Fil) (vl : Value) (F2 F3 : List Nat) (vw vo vt : Value) (wt : List Fil) (wx : World) : Prop where
  box : wx.heap[w.heap.size]? = some (.cells #[.string p.nm, .int .i64 (p.out + 1), .int .i64 p.inn, vw, vo, vt] 29 (0, 0))
  rb : wx.heap[w.heap.size + 1]? = some (.cells #[.string ByteArray.empty, .int .i64 0, .int .i64 0, .slice none 0 0, .slice none 0 0, .slice none 0 0] 29 (0, 0))
  rf : wx.heap[w.heap.size + 1 + 1]? = some (.cells #[.string ByteArray.empty, .string ByteArray.empty, .int .i64 0, .slice none 0 0] 45 (0, 0))
  fb : wx.heap[w.heap.size + 1 + 1 + 1]? = some (.cells #[.string f.fr, .string f.to, .int .i64 f.sq, vl] 45 (0, 0))
  bel : Below w.heap.size w wx
  wt : SlIs tFil (fun k => w.heap.size + 4 ≤ k ∧ k < wx.heap.size ∧ k ∉ F2) wx vw wt
  ours : OwnL tRec 49 F2 wx vo p.ours
  thr : OwnL tRec 49 F3 wx vt p.thr
theorem SX.mk9 {w wb w6 : World} {p : Par} {f : Fil} {vl vw0 vw vo vt : Value} {F1 F2 F3 : List Nat} {wt : List Fil} (hsz : w.heap.size + 4 ≤ wb.heap.size)
    (hbx : wb.heap[w.heap.size]? = some (.cells #[.string p.nm, .int .i64 (p.out + 1), .int .i64 p.inn, vw0, vo, vt] 29 (0, 0)))
    (hrb : wb.heap[w.heap.size + 1]? = some (.cells #[.string ByteArray.empty, .int .i64 0, .int .i64 0, .slice none 0 0, .slice none 0 0, .slice none 0 0] 29 (0, 0)))
    (hrf : wb.heap[w.heap.size + 1 + 1]? = some (.cells #[.string ByteArray.empty, .string ByteArray.empty, .int .i64 0, .slice none 0 0] 45 (0, 0)))
    (hfb : wb.heap[w.heap.size + 1 + 1 + 1]? = some (.cells #[.string f.fr, .string f.to, .int .i64 f.sq, vl] 45 (0, 0)))
    (h2 : OwnL tRec 49 F2 wb vo p.ours) (h3 : OwnL tRec 49 F3 wb vt p.thr) (b1 : ∀ b ∈ F1, w.heap.size + 4 ≤ b) (b2 : ∀ b ∈ F2, w.heap.size + 4 ≤ b) (b3 : ∀ b ∈ F3, w.heap.size + 4 ≤ b) (d12 : ∀ b ∈ F1, b ∉ F2) (d13 : ∀ b ∈ F1, b ∉ F3)
    (hk : ∀ k, k < wb.heap.size → k ∉ F1 → w6.heap[k]? = wb.heap[k]?) (hW : Below w.heap.size w w6) (hwt : SlIs tFil (fun k => w.heap.size + 4 ≤ k ∧ k < w6.heap.size ∧ k ∉ F2) w6 vw wt) :
    SX w p f vl F2 F3 vw vo vt wt (w6.setCell ⟨w.heap.size, 3, none⟩ vw) := by
  have hn : ∀ k, k < w.heap.size + 4 → k ∉ F1 := fun k h q => by have := b1 k q; omega
  have hs : ∀ k, k ≠ w.heap.size → (w6.setCell ⟨w.heap.size, 3, none⟩ vw).heap[k]? = w6.heap[k]? := fun k h => Below.heap_setCell _ _ _ _ h
  refine ⟨st6_3 ((hk _ (by omega) (hn _ (by omega))).trans hbx), (hs _ (by omega)).trans ((hk _ (by omega) (hn _ (by omega))).trans hrb), (hs _ (by omega)).trans ((hk _ (by omega) (hn _ (by omega))).trans hrf), (hs _ (by omega)).trans ((hk _ (by omega) (hn _ (by omega))).trans hfb), bl_set hW _ (Nat.le_refl _),
    hwt.keep (fun k q => ⟨q.1, by simpa using q.2.1, q.2.2⟩) (fun k q => hs k (by have := q.1; omega)), h2.keep (fun b hb => (hs b (by have := b2 b hb; omega)).trans (hk b (h2.lt b hb) (fun q => d12 b q hb))), h3.keep (fun b hb => (hs b (by have := b3 b hb; omega)).trans (hk b (h3.lt b hb) (fun q => d13 b q hb)))⟩
/-- .. behind the append to Ours -/
structure SY (w : World) (f : Fil) (vl : Value) (p' : Par) (vw vo vt : Value) (wx : World) : Prop where
  box : wx.heap[w.heap.size]? = some (.cells #[.string p'.nm, .int .i64 p'.out, .int .i64 p'.inn, vw, vo, vt] 29 (0, 0))
  rb : wx.heap[w.heap.size + 1]? = some (.cells #[.string ByteArray.empty, .int .i64 0, .int .i64 0, .slice none 0 0, .slice none 0 0, .slice none 0 0] 29 (0, 0))
  rf : wx.heap[w.heap.size + 1 + 1]? = some (.cells #[.string ByteArray.empty, .string ByteArray.empty, .int .i64 0, .slice none 0 0] 45 (0, 0))
  fb : wx.heap[w.heap.size + 1 + 1 + 1]? = some (.cells #[.string f.fr, .string f.to, .int .i64 f.sq, vl] 45 (0, 0))
  bel : Below w.heap.size w wx
  ok : ParOk (fun k => w.heap.size + 4 ≤ k ∧ k < wx.heap.size) wx p' vw vo vt
theorem SX.push {w wx w7 : World} {p : Par} {f : Fil} {vl vw vo vt v7 : Value} {F2 F3 : List Nat} {wt : List Fil} {l : List Rec} (h : SX w p f vl F2 F3 vw vo vt wt wx) (b2 : ∀ b ∈ F2, w.heap.size + 4 ≤ b) (b3 : ∀ b ∈ F3, w.heap.size + 4 ≤ b) (d23 : ∀ b ∈ F2, b ∉ F3)
    (hg : wx.grownBy w7 vo.ownBlock) (ho : OwnSl tRec 49 (w.heap.size + 4) w7 v7 (p.ours ++ l)) {S : Nat → Prop} {w0 : World} {a b c : Value} (h0 : ParOk S w0 p a b c) (hn : i64ok (p.out + 1)) :
    SY w f vl { p with out := p.out + 1, wt := wt, ours := p.ours ++ l } vw v7 vt (w7.setCell ⟨w.heap.size, 4, none⟩ v7) := by
  have hblk := h.ours.blk
  have hsz := hg.size
  have hk : ∀ k, k < wx.heap.size → k ∉ F2 → w7.heap[k]? = wx.heap[k]? := fun k q1 q2 => hg.block k q1 (fun e => q2 (hblk k e.symm))
  have hn2 : ∀ k, k < w.heap.size + 4 → k ∉ F2 := fun k q e => by have := b2 k e; omega
  have hz : w.heap.size + 1 + 1 + 1 < wx.heap.size := lt_of_heap h.fb
  have hs : ∀ k, k ≠ w.heap.size → (w7.setCell ⟨w.heap.size, 4, none⟩ v7).heap[k]? = w7.heap[k]? := fun k q => Below.heap_setCell _ _ _ _ q
  refine ⟨st6_4 ((hk _ (by omega) (hn2 _ (by omega))).trans h.box), (hs _ (by omega)).trans ((hk _ (by omega) (hn2 _ (by omega))).trans h.rb), (hs _ (by omega)).trans ((hk _ (by omega) (hn2 _ (by omega))).trans h.rf), (hs _ (by omega)).trans ((hk _ (by omega) (hn2 _ (by omega))).trans h.fb), ?_, ⟨h0.nm, hn, h0.inn, ?_, ?_, ?_⟩⟩
  · exact bl_set (h.bel.trans (Below.of_grown hg (by omega) (fun k e => by have := b2 k (hblk k e); omega))) _ (Nat.le_refl _)
  · exact h.wt.keep (fun k q => ⟨q.1, by simp; omega⟩) (fun k q => (hs k (by have := q.1; omega)).trans (hk k q.2.1 q.2.2))
  · exact (ho.fresh flatRec).keep (fun k q => ⟨q.1, by simpa using q.2⟩) (fun k q => hs k (by have := q.1; omega))
  · exact h.thr.sl.keep (fun k q => ⟨b3 k q, by have := h.thr.lt k q; simp; omega⟩) (fun k q => (hs k (by have := b3 k q; omega)).trans (hk k (h.thr.lt k q) (fun e => d23 k e q)))
set_option maxRecDepth 100000 in
set_option maxHeartbeats 8000000 in
theorem send_gen (S : Nat → Prop) (p : Par) (fr : ByteArray) (l : List Rec) (vw vo vt vl : Value) (w : World) (hsp : ParOk S w p vw vo vt) (hss : ∀ k, S k → k < w.heap.size) (hs : SmallP p) (hfr : fr.size ≤ maxLen) (hl : SlIs tRec (· < w.heap.size) w vl l) :
    Calls Tryz.prog 32 #[.agg #[.string p.nm, .int .i64 p.out, .int .i64 p.inn, vw, vo, vt], .string fr, vl] w fun e w' => SEs S w w' e (sendC p fr l) ∧ Below w.heap.size w w' := by
  have h : ParOk (· < w.heap.size) w p vw vo vt := hsp.keep hss (SameOn.refl _ _)
  have HP := Lib.hid h
  have HPS := Lib.hid hsp
  have HSS := Lib.hid hss
  have HS := Lib.hid hs
  have HL := Lib.hid hl
  obtain ⟨aw, cw, bw, ow, rfl, hw1, hw2, -⟩ := id h.wt
  obtain ⟨ao, co, bo, oo, rfl, ho1, ho2, -⟩ := id h.ours
  obtain ⟨at', ct, bt, ot, rfl, ht1, ht2, -⟩ := id h.thr
  obtain ⟨al, cl, bl, ol, rfl, hl1, hl2, -⟩ := id hl
  unfold maxLen at hw2 ho2 ht2 hl2
  have hout := h.out
  unfold i64ok at hout
  have hsw := hs.wt
  have hso := hs.ours
  have HF0 := Lib.hid (show FilOk (· < w.heap.size) w ⟨fr, p.nm, p.out, l⟩ (.slice al l.length cl) from ⟨hfr, h.nm, h.out, hl⟩)
  clear h hs hl hfr hsp hss
  go_enter Tryz.func32, Tryz.ntmps32
  go_wp2_with (fail)
  refine (check_any ⟨fr, p.nm, p.out, l⟩ _ _ (HL.out.step (bl_alloc (bl_alloc (bl_alloc (bl_alloc (Below.refl _ _) _) _) _) _))).mono ?_
  rintro e w1 ⟨rfl, hb1⟩
  have n0 := Go.Tw.Below.at_old hb1 (alloc4_0 w _ _ _ _)
  have n1 := Go.Tw.Below.at_old hb1 (alloc4_1 w _ _ _ _)
  have n2 := Go.Tw.Below.at_old hb1 (alloc4_2 w _ _ _ _)
  have n3 := Go.Tw.Below.at_old hb1 (alloc4_3 w _ _ _ _)
  have HW := Lib.hid (bl_trans (bl_alloc (bl_alloc (bl_alloc (bl_alloc (Below.refl w.heap.size w) _) _) _) _) hb1)
  have hsz : w.heap.size + 4 ≤ w1.heap.size := by have := hb1.size; simpa using this
  obtain ⟨c0, c1, c2, c3, c4, c5, cf⟩ := blk6' n0
  obtain ⟨d0, d1, d2, d3, d4, d5, df⟩ := blk6' n1
  obtain ⟨f0, f1, f2, f3, ff⟩ := blk4 n2
  obtain ⟨g0, g1, g2, g3, gf⟩ := blk4 n3
  have HN0 := Lib.hid n0
  have HN1 := Lib.hid n1
  have HN2 := Lib.hid n2
  have HN3 := Lib.hid n3
  clear hb1 n0 n1 n2 n3
  by_cases q0 : checkC ⟨fr, p.nm, p.out, l⟩ = 0
  case neg =>
    have HC := Lib.hid (send_c q0)
    have hq : (checkC ⟨fr, p.nm, p.out, l⟩ != 0) = true := by simpa using q0
    obtain ⟨x, hx⟩ : ∃ x, checkC ⟨fr, p.nm, p.out, l⟩ = x := ⟨_, rfl⟩
    rw [hx] at HC hq ⊢
    clear q0 hx
    go_wp2_with (fail)
    refine bodyPost_ret (v := .tuple #[.agg #[.string p.nm, .int .i64 p.out, .int .i64 p.inn, .slice aw p.wt.length cw, .slice ao p.ours.length co, .slice at' p.thr.length ct], .agg #[.string ByteArray.empty, .string ByteArray.empty, .int .i64 0, .slice none 0 0], .int .i64 x]) (by simp [results, Tryz.results32, go_sem, d0, d1, d2, d3, d4, d5, f0, f1, f2, f3]; first | done | rfl | (constructor <;> rfl)) rfl ⟨ses_mk (f := zeroF) HC.out (parOk_stepS HPS.out HSS.out ?_) filOk_zero, ?_⟩
    · (repeat (first | (with_reducible exact HW.out) | (with_reducible apply bl_drewN) | (with_reducible apply bl_alloc) | ((with_reducible refine bl_set ?_ _ ?_); rotate_left; focus (first | exact Nat.le_refl _ | (simp; done) | (simp; omega)))))
    · (repeat (first | (with_reducible exact HW.out) | (with_reducible apply bl_drewN) | (with_reducible apply bl_alloc) | ((with_reducible refine bl_set ?_ _ ?_); rotate_left; focus (first | exact Nat.le_refl _ | (simp; done) | (simp; omega)))))
  have hcs := check_sq q0
  simp only at hcs
  rw [q0]
  have hq6 : IntKind.i64.wrap ((p.ours.length : Int) + (l.length : Int)) = (p.ours.length : Int) + (l.length : Int) := wrap_in (by omega) (by omega)
  by_cases q1 : 1024 ≤ p.wt.length
  · have HC := Lib.hid (send_l q0 (.inl q1))
    have hq : (1024 : Int) ≤ (p.wt.length : Int) := by omega
    clear q0 q1
    go_wp2_with (fail)
    refine bodyPost_ret (v := .tuple #[.agg #[.string p.nm, .int .i64 p.out, .int .i64 p.inn, .slice aw p.wt.length cw, .slice ao p.ours.length co, .slice at' p.thr.length ct], .agg #[.string ByteArray.empty, .string ByteArray.empty, .int .i64 0, .slice none 0 0], .int .i64 3]) (by simp [results, Tryz.results32, go_sem, d0, d1, d2, d3, d4, d5, f0, f1, f2, f3]; first | done | rfl | (constructor <;> rfl)) rfl ⟨ses_mk (f := zeroF) HC.out (parOk_stepS HPS.out HSS.out ?_) filOk_zero, ?_⟩
    · (repeat (first | (with_reducible exact HW.out) | (with_reducible apply bl_drewN) | (with_reducible apply bl_alloc) | ((with_reducible refine bl_set ?_ _ ?_); rotate_left; focus (first | exact Nat.le_refl _ | (simp; done) | (simp; omega)))))
    · (repeat (first | (with_reducible exact HW.out) | (with_reducible apply bl_drewN) | (with_reducible apply bl_alloc) | ((with_reducible refine bl_set ?_ _ ?_); rotate_left; focus (first | exact Nat.le_refl _ | (simp; done) | (simp; omega)))))
  have hq1 : decide ((1024 : Int) ≤ (p.wt.length : Int)) = false := by simp; omega
  by_cases q2 : 1024 < p.ours.length + l.length
  · have HC := Lib.hid (send_l q0 (.inr q2))
    have hq : (1024 : Int) < (p.ours.length : Int) + (l.length : Int) := by omega
    clear q0 q1 q2
    go_wp2_with (fail)
    refine bodyPost_ret (v := .tuple #[.agg #[.string p.nm, .int .i64 p.out, .int .i64 p.inn, .slice aw p.wt.length cw, .slice ao p.ours.length co, .slice at' p.thr.length ct], .agg #[.string ByteArray.empty, .string ByteArray.empty, .int .i64 0, .slice none 0 0], .int .i64 3]) (by simp [results, Tryz.results32, go_sem, d0, d1, d2, d3, d4, d5, f0, f1, f2, f3]; first | done | rfl | (constructor <;> rfl)) rfl ⟨ses_mk (f := zeroF) HC.out (parOk_stepS HPS.out HSS.out ?_) filOk_zero, ?_⟩
    · (repeat (first | (with_reducible exact HW.out) | (with_reducible apply bl_drewN) | (with_reducible apply bl_alloc) | ((with_reducible refine bl_set ?_ _ ?_); rotate_left; focus (first | exact Nat.le_refl _ | (simp; done) | (simp; omega)))))
    · (repeat (first | (with_reducible exact HW.out) | (with_reducible apply bl_drewN) | (with_reducible apply bl_alloc) | ((with_reducible refine bl_set ?_ _ ?_); rotate_left; focus (first | exact Nat.le_refl _ | (simp; done) | (simp; omega)))))
  have hq2 : decide ((1024 : Int) < (p.ours.length : Int) + (l.length : Int)) = false := by simp; omega
  have HC := Lib.hid (send_y q0 (by omega))
  have hq7 : IntKind.i64.wrap (p.out + 1) = p.out + 1 := wrap_in (by omega) (by omega)
  clear q0
  go_wp2_with (fail)
  refine (partner_any p _ _ _ _ (HP.out.step HW.out) HS.out).mono ?_
  rintro e w2 ⟨vw', vo', vt', rfl, hown, hb2⟩
  obtain ⟨⟨aw', cw', rfl, hw1', hw2'⟩, ⟨ao', co', rfl, ho1', ho2'⟩, ⟨at2, ct2, rfl, ht1', ht2'⟩⟩ := hown.form
  unfold maxLen at hw2' ho2' ht2'
  have HW2 := Lib.hid (bl_trans HW.out hb2)
  have hsz2 : w1.heap.size ≤ w2.heap.size := hb2.size
  have m0 := Go.Tw.Below.at_old hb2 HN0.out
  have m1 := Go.Tw.Below.at_old hb2 HN1.out
  have m2 := Go.Tw.Below.at_old hb2 HN2.out
  have m3 := Go.Tw.Below.at_old hb2 HN3.out
  clear c0 c1 c2 c3 c4 c5 cf d0 d1 d2 d3 d4 d5 df f0 f1 f2 f3 ff g0 g1 g2 g3 gf hb2 hw1 hw2 ho1 ho2 ht1 ht2 HN0 HN1 HN2 HN3
  obtain ⟨c0, c1, c2, c3, c4, c5, cf⟩ := blk6' m0
  go_upto_region 9 with (fail)
  obtain ⟨wb, hwb⟩ : ∃ wb, (((((((w2.setCell ⟨w.heap.size, 0, none⟩ (.string p.nm)).setCell ⟨w.heap.size, 1, none⟩ (.int .i64 p.out)).setCell ⟨w.heap.size, 2, none⟩ (.int .i64 p.inn)).setCell ⟨w.heap.size, 3, none⟩ (.slice aw' p.wt.length cw')).setCell ⟨w.heap.size, 4, none⟩ (.slice ao' p.ours.length co')).setCell ⟨w.heap.size, 5, none⟩ (.slice at2 p.thr.length ct2)).setCell ⟨w.heap.size, 1, none⟩ (.int .i64 (p.out + 1))) = wb := ⟨_, rfl⟩
  have hb0 := st6_1 (x := .int .i64 (p.out + 1)) (set6_same (x0 := .string p.nm) (x1 := .int .i64 p.out) (x2 := .int .i64 p.inn) (x3 := .slice aw' p.wt.length cw') (x4 := .slice ao' p.ours.length co') (x5 := .slice at2 p.thr.length ct2) m0)
  rw [hwb] at hb0 ⊢
  have hne : ∀ k, k ≠ w.heap.size → wb.heap[k]? = w2.heap[k]? := fun k hk => by rw [← hwb]; exact (Below.heap_setCell _ _ _ _ hk).trans (set6_ne hk)
  have hszb : wb.heap.size = w2.heap.size := by rw [← hwb]; simp
  have HBX := Lib.hid hb0
  have HWB := Lib.hid (show Below w.heap.size w wb by rw [← hwb]; exact bl_set (bl_set (bl_set (bl_set (bl_set (bl_set (bl_set HW2.out _ (Nat.le_refl _)) _ (Nat.le_refl _)) _ (Nat.le_refl _)) _ (Nat.le_refl _)) _ (Nat.le_refl _)) _ (Nat.le_refl _)) _ (Nat.le_refl _))
  have HRB := Lib.hid ((hne (w.heap.size + 1) (by omega)).trans m1)
  have HRF := Lib.hid ((hne (w.heap.size + 1 + 1) (by omega)).trans m2)
  have HFB := Lib.hid ((hne (w.heap.size + 1 + 1 + 1) (by omega)).trans m3)
  have hown3 := (hown.low hsz).same (w' := wb) (fun k h1 _ => hne k (by omega))
  have hszw : w.heap.size + 4 ≤ wb.heap.size := by omega
  clear hwb hne m0 m1 m2 m3 hb0 c0 c1 c2 c3 c4 c5 cf hown HW2 HW hsz hsz2 hszb
  obtain ⟨F1, F2, F3, h1, h2, h3, nd1, nd2, nd3, b1, b2, b3, d12, d13, d23⟩ := hown3
  have HO1 := Lib.hid (Go.Tw.Exc.OwnL.toS h1 nd1 b1)
  have HLT := Lib.hid h1.lt
  have HBK := Lib.hid h1.blk
  have HO2 := Lib.hid h2
  have HO3 := Lib.hid h3
  have HBB := Lib.hid (show (∀ b ∈ F1, w.heap.size + 4 ≤ b) ∧ (∀ b ∈ F2, w.heap.size + 4 ≤ b) ∧ (∀ b ∈ F3, w.heap.size + 4 ≤ b) ∧ (∀ b ∈ F1, b ∉ F2) ∧ (∀ b ∈ F1, b ∉ F3) ∧ ∀ b ∈ F2, b ∉ F3 from ⟨b1, b2, b3, d12, d13, d23⟩)
  have HND := Lib.hid nd2
  have HL2 := Lib.hid h2.lt
  clear h1 h2 h3 nd1 nd2 nd3 b1 b2 b3 d12 d13 d23
  obtain ⟨c0, c1, c2, c3, c4, c5, cf⟩ := blk6' HBX.out
  obtain ⟨g0, g1, g2, g3, gf⟩ := blk4 HFB.out
  go_cut [9] (fun v wx => v = .pointer (some ⟨w.heap.size + 1 + 1 + 1, 0, none⟩) ∧ ∃ a3 c3, SX w p ⟨fr, p.nm, p.out, l⟩ (.slice al l.length cl) F2 F3 (.slice a3 (p.wt.length + 1) c3) (.slice ao' p.ours.length co') (.slice at2 p.thr.length ct2) (p.wt ++ [⟨fr, p.nm, p.out, l⟩]) wx)
  case first =>
    refine wp_region_any (by kernel_rfl) ?_
    change wpAny _ _ _ _ _ _ _ (World.drew _)
    refine wpAny_take (i := 0) (v := ?_) rfl (by kernel_rfl) (by kernel_rfl) (by kernel_rfl) (fun _ _ _ h => h) (Or.inl ⟨by rfl, ?_⟩) ?_
    rotate_left
    focus (intro w9; go_simp; with_reducible rfl)
    refine wpAny_ready (rs := [1, 2]) (by kernel_rfl) (by simp) ?_
    refine AllReady.cons rfl (fun K hK => ?_) (AllReady.cons rfl (fun K hK => ?_) AllReady.nil)
    · go_simp
      refine hK _ _ ?_
      clear hK K
      refine wpAny_ready (rs := [2]) (by kernel_rfl) (by simp) ?_
      refine AllReady.cons rfl (fun K hK => ?_) AllReady.nil
      go_simp
      refine hK _ _ ?_
      clear hK K
      refine wpAny_ready (rs := [3]) (by kernel_rfl) (by simp) ?_
      refine AllReady.cons rfl (fun K hK => ?_) AllReady.nil
      go_simp
      go_wp2_with (
        go_at_call 58
        refine (copied_new ⟨fr, p.nm, p.out, l⟩ _ _ (HF0.out.step (Below.drew HWB.out)) (by show l.length ≤ 1000000; omega)).mono ?_
        rintro e w5 ⟨h', rfl, hn5, hb5⟩
        obtain ⟨ah, ch, rfl, -⟩ := hn5.form
        have HW5 := Lib.hid (show Below wb.heap.size wb w5 from Below.trans (b := wb.drew) (Below.drew (Below.refl _ _)) hb5)
        have HN5 := Lib.hid (show NewL tRec 49 wb.heap.size w5 (.slice ah l.length ch) l from hn5)
        have hz5 : wb.heap.size ≤ w5.heap.size := hb5.size
        obtain ⟨e0, e1, e2, e3, e4, e5, ef⟩ := blk6' ((HW5.out.block _ (by omega)).trans HBX.out)
        obtain ⟨k0, k1, k2, k3, kf⟩ := blk4 ((HW5.out.block _ (by omega)).trans HFB.out)
        have ak0 := ((bl_alloc (Below.refl w5.heap.size w5) (.cells #[.string fr, .string p.nm, .int .i64 p.out, .slice ah l.length ch] 45)).cell (p := ⟨w.heap.size + 1 + 1 + 1, 0, none⟩) (by show w.heap.size + 1 + 1 + 1 < _; omega)).trans k0
        have ak1 := ((bl_alloc (Below.refl w5.heap.size w5) (.cells #[.string fr, .string p.nm, .int .i64 p.out, .slice ah l.length ch] 45)).cell (p := ⟨w.heap.size + 1 + 1 + 1, 1, none⟩) (by show w.heap.size + 1 + 1 + 1 < _; omega)).trans k1
        have ak2 := ((bl_alloc (Below.refl w5.heap.size w5) (.cells #[.string fr, .string p.nm, .int .i64 p.out, .slice ah l.length ch] 45)).cell (p := ⟨w.heap.size + 1 + 1 + 1, 2, none⟩) (by show w.heap.size + 1 + 1 + 1 < _; omega)).trans k2
        have ak3 := ((bl_alloc (Below.refl w5.heap.size w5) (.cells #[.string fr, .string p.nm, .int .i64 p.out, .slice ah l.length ch] 45)).cell (p := ⟨w.heap.size + 1 + 1 + 1, 3, none⟩) (by show w.heap.size + 1 + 1 + 1 < _; omega)).trans k3
        have ae3 := ((bl_alloc (Below.refl w5.heap.size w5) (.cells #[.string fr, .string p.nm, .int .i64 p.out, .slice ah l.length ch] 45)).cell (p := ⟨w.heap.size, 3, none⟩) (by show w.heap.size < _; omega)).trans e3
        clear hn5 hb5)
      refine wpAny_ready (rs := [4]) (by kernel_rfl) (by simp) ?_
      refine AllReady.cons rfl (fun K hK => ?_) AllReady.nil
      go_simp
      refine hK _ _ ?_
      clear hK K
      refine wpAny_ready (rs := [5]) (by kernel_rfl) (by simp) ?_
      refine AllReady.cons rfl (fun K hK => ?_) AllReady.nil
      refine step_append_oneS (.tmp 47) (.tmp 50) rfl 26 rfl slFil rfl (HO1.out.below (fun k hk => HLT.out k hk.1) (HW5.out.trans (bl_alloc (Below.refl w5.heap.size w5) (.cells #[.string fr, .string p.nm, .int .i64 p.out, .slice ah l.length ch] 45) |>.mono hz5))) (fun k hk => ⟨by have := HLT.out k hk.1; simp; omega, hk.2⟩) rfl
        (SlIs.single (T := tFil) (S := fun k => wb.heap.size ≤ k ∧ k < w5.heap.size) (x := ⟨fr, p.nm, p.out, l⟩) (tFil_mk (v := .slice ah l.length ch) ⟨HF0.out.fr, HF0.out.to, HF0.out.sq, HN5.out.sl⟩) (fun k hk => hk.2)) (fun k hk => ?_) (by omega) (by unfold maxLen; omega) (by simp; omega) ?_
      · have hk' : wb.heap.size ≤ k ∧ k < w5.heap.size + 1 := by rcases hk with q | q <;> omega
        exact ⟨by simp; omega, fun e => by have := HLT.out k (HBK.out k e.symm); omega⟩
      intro v3 w6 ho6 hg6 hor6
      have HSL := Lib.hid ho6.sl
      obtain ⟨a3, c3', q3, -⟩ := ho6.form
      rw [List.length_append] at q3
      change v3 = .slice a3 (p.wt.length + 1) c3' at q3
      subst q3
      have HK6 := Lib.hid (show ∀ k, k < wb.heap.size → k ∉ F1 → w6.heap[k]? = wb.heap[k]? from fun k q1 q2 => (hg6.block k (by simp; omega) (fun e => q2 (HBK.out k e.symm))).trans ((Below.heap_alloc _ _ _ (by omega)).trans (HW5.out.block k q1)))
      have hz6 : w5.heap.size + 1 ≤ w6.heap.size := by have := hg6.size; simpa using this
      have HW6 := Lib.hid (show Below w.heap.size w w6 from (HWB.out.trans (HW5.out.mono (by omega))).trans (((bl_alloc (Below.refl w5.heap.size w5) (.cells #[.string fr, .string p.nm, .int .i64 p.out, .slice ah l.length ch] 45)).mono (by omega)).trans (Below.of_grown hg6 (by simp; omega) (fun k e => by have := HBB.out.1 k (HBK.out k e); omega))))
      have HWT := Lib.hid (show SlIs tFil (fun k => w.heap.size + 4 ≤ k ∧ k < w6.heap.size ∧ k ∉ F2) w6 (.slice a3 (p.wt.length + 1) c3') (p.wt ++ [⟨fr, p.nm, p.out, l⟩]) from HSL.out.keep (fun k hk => by
        rcases hk with (q | q) | q
        · exact ⟨HBB.out.1 k q.1, by have := HLT.out k q.1; omega, HBB.out.2.2.2.1 k q.1⟩
        · have q' : wb.heap.size ≤ k ∧ k < w5.heap.size + 1 := by rcases q with q | q <;> omega
          exact ⟨by omega, by omega, fun e => by have := HL2.out k e; omega⟩
        · have q' := ho6.own_lt k q
          rcases hor6 with e | e
          · have e2 := HBK.out k (e.symm.trans q)
            exact ⟨q'.1, q'.2, HBB.out.2.2.2.1 k e2⟩
          · rw [e] at q
            have e3 : (w5.alloc (.cells #[.string fr, .string p.nm, .int .i64 p.out, .slice ah l.length ch] 45)).heap.size = k := by injection q
            simp only [World.size_alloc] at e3
            exact ⟨q'.1, q'.2, fun e => by have := HL2.out k e; omega⟩) (SameOn.refl _ _))
      obtain ⟨z0, z1, z2, z3, z4, z5, zf⟩ := blk6' ((HK6.out _ (by omega) (fun e => by have := HBB.out.1 _ e; omega)).trans HBX.out)
      obtain ⟨y0, y1, y2, y3, yf⟩ := blk4 ((HK6.out _ (by omega) (fun e => by have := HBB.out.1 _ e; omega)).trans HFB.out)
      clear ho6 hg6 hor6
      refine hK _ _ ?_
      clear hK K
      refine wpAny_ready (rs := [6]) (by kernel_rfl) (by simp) ?_
      refine AllReady.cons rfl (fun K hK => ?_) AllReady.nil
      go_simp
      refine hK _ _ ?_
      clear hK K
      refine wpAny_ready (rs := [7]) (by kernel_rfl) (by simp) ?_
      refine AllReady.cons rfl (fun K hK => ?_) AllReady.nil
      go_simp
      refine hK _ _ ?_
      clear hK K
      refine wpAny_done (by kernel_rfl) ?_ _
      go_wp2_with (fail)
      go_meet
      exact ⟨rfl, _, _, SX.mk9 (f := ⟨fr, p.nm, p.out, l⟩) hszw HBX.out HRB.out HRF.out HFB.out HO2.out HO3.out HBB.out.1 HBB.out.2.1 HBB.out.2.2.1 HBB.out.2.2.2.1 HBB.out.2.2.2.2.1 HK6.out HW6.out HWT.out⟩
    · go_simp
      refine hK _ _ ?_
      clear hK K
      refine wpAny_ready (rs := [1, 3]) (by kernel_rfl) (by simp) ?_
      refine AllReady.cons rfl (fun K hK => ?_) (AllReady.cons rfl (fun K hK => ?_) AllReady.nil)
      · go_simp
        refine hK _ _ ?_
        clear hK K
        refine wpAny_ready (rs := [3]) (by kernel_rfl) (by simp) ?_
        refine AllReady.cons rfl (fun K hK => ?_) AllReady.nil
        go_simp
        go_wp2_with (
          go_at_call 58
          refine (copied_new ⟨fr, p.nm, p.out, l⟩ _ _ (HF0.out.step (Below.drew HWB.out)) (by show l.length ≤ 1000000; omega)).mono ?_
          rintro e w5 ⟨h', rfl, hn5, hb5⟩
          obtain ⟨ah, ch, rfl, -⟩ := hn5.form
          have HW5 := Lib.hid (show Below wb.heap.size wb w5 from Below.trans (b := wb.drew) (Below.drew (Below.refl _ _)) hb5)
          have HN5 := Lib.hid (show NewL tRec 49 wb.heap.size w5 (.slice ah l.length ch) l from hn5)
          have hz5 : wb.heap.size ≤ w5.heap.size := hb5.size
          obtain ⟨e0, e1, e2, e3, e4, e5, ef⟩ := blk6' ((HW5.out.block _ (by omega)).trans HBX.out)
          obtain ⟨k0, k1, k2, k3, kf⟩ := blk4 ((HW5.out.block _ (by omega)).trans HFB.out)
          have ak0 := ((bl_alloc (Below.refl w5.heap.size w5) (.cells #[.string fr, .string p.nm, .int .i64 p.out, .slice ah l.length ch] 45)).cell (p := ⟨w.heap.size + 1 + 1 + 1, 0, none⟩) (by show w.heap.size + 1 + 1 + 1 < _; omega)).trans k0
          have ak1 := ((bl_alloc (Below.refl w5.heap.size w5) (.cells #[.string fr, .string p.nm, .int .i64 p.out, .slice ah l.length ch] 45)).cell (p := ⟨w.heap.size + 1 + 1 + 1, 1, none⟩) (by show w.heap.size + 1 + 1 + 1 < _; omega)).trans k1
          have ak2 := ((bl_alloc (Below.refl w5.heap.size w5) (.cells #[.string fr, .string p.nm, .int .i64 p.out, .slice ah l.length ch] 45)).cell (p := ⟨w.heap.size + 1 + 1 + 1, 2, none⟩) (by show w.heap.size + 1 + 1 + 1 < _; omega)).trans k2
          have ak3 := ((bl_alloc (Below.refl w5.heap.size w5) (.cells #[.string fr, .string p.nm, .int .i64 p.out, .slice ah l.length ch] 45)).cell (p := ⟨w.heap.size + 1 + 1 + 1, 3, none⟩) (by show w.heap.size + 1 + 1 + 1 < _; omega)).trans k3
          have ae3 := ((bl_alloc (Below.refl w5.heap.size w5) (.cells #[.string fr, .string p.nm, .int .i64 p.out, .slice ah l.length ch] 45)).cell (p := ⟨w.heap.size, 3, none⟩) (by show w.heap.size < _; omega)).trans e3
          clear hn5 hb5)
        refine wpAny_ready (rs := [4]) (by kernel_rfl) (by simp) ?_
        refine AllReady.cons rfl (fun K hK => ?_) AllReady.nil
        go_simp
        refine hK _ _ ?_
        clear hK K
        refine wpAny_ready (rs := [5]) (by kernel_rfl) (by simp) ?_
        refine AllReady.cons rfl (fun K hK => ?_) AllReady.nil
        refine step_append_oneS (.tmp 47) (.tmp 50) rfl 26 rfl slFil rfl (HO1.out.below (fun k hk => HLT.out k hk.1) (HW5.out.trans (bl_alloc (Below.refl w5.heap.size w5) (.cells #[.string fr, .string p.nm, .int .i64 p.out, .slice ah l.length ch] 45) |>.mono hz5))) (fun k hk => ⟨by have := HLT.out k hk.1; simp; omega, hk.2⟩) rfl
          (SlIs.single (T := tFil) (S := fun k => wb.heap.size ≤ k ∧ k < w5.heap.size) (x := ⟨fr, p.nm, p.out, l⟩) (tFil_mk (v := .slice ah l.length ch) ⟨HF0.out.fr, HF0.out.to, HF0.out.sq, HN5.out.sl⟩) (fun k hk => hk.2)) (fun k hk => ?_) (by omega) (by unfold maxLen; omega) (by simp; omega) ?_
        · have hk' : wb.heap.size ≤ k ∧ k < w5.heap.size + 1 := by rcases hk with q | q <;> omega
          exact ⟨by simp; omega, fun e => by have := HLT.out k (HBK.out k e.symm); omega⟩
        intro v3 w6 ho6 hg6 hor6
        have HSL := Lib.hid ho6.sl
        obtain ⟨a3, c3', q3, -⟩ := ho6.form
        rw [List.length_append] at q3
        change v3 = .slice a3 (p.wt.length + 1) c3' at q3
        subst q3
        have HK6 := Lib.hid (show ∀ k, k < wb.heap.size → k ∉ F1 → w6.heap[k]? = wb.heap[k]? from fun k q1 q2 => (hg6.block k (by simp; omega) (fun e => q2 (HBK.out k e.symm))).trans ((Below.heap_alloc _ _ _ (by omega)).trans (HW5.out.block k q1)))
        have hz6 : w5.heap.size + 1 ≤ w6.heap.size := by have := hg6.size; simpa using this
        have HW6 := Lib.hid (show Below w.heap.size w w6 from (HWB.out.trans (HW5.out.mono (by omega))).trans (((bl_alloc (Below.refl w5.heap.size w5) (.cells #[.string fr, .string p.nm, .int .i64 p.out, .slice ah l.length ch] 45)).mono (by omega)).trans (Below.of_grown hg6 (by simp; omega) (fun k e => by have := HBB.out.1 k (HBK.out k e); omega))))
        have HWT := Lib.hid (show SlIs tFil (fun k => w.heap.size + 4 ≤ k ∧ k < w6.heap.size ∧ k ∉ F2) w6 (.slice a3 (p.wt.length + 1) c3') (p.wt ++ [⟨fr, p.nm, p.out, l⟩]) from HSL.out.keep (fun k hk => by
          rcases hk with (q | q) | q
          · exact ⟨HBB.out.1 k q.1, by have := HLT.out k q.1; omega, HBB.out.2.2.2.1 k q.1⟩
          · have q' : wb.heap.size ≤ k ∧ k < w5.heap.size + 1 := by rcases q with q | q <;> omega
            exact ⟨by omega, by omega, fun e => by have := HL2.out k e; omega⟩
          · have q' := ho6.own_lt k q
            rcases hor6 with e | e
            · have e2 := HBK.out k (e.symm.trans q)
              exact ⟨q'.1, q'.2, HBB.out.2.2.2.1 k e2⟩
            · rw [e] at q
              have e3 : (w5.alloc (.cells #[.string fr, .string p.nm, .int .i64 p.out, .slice ah l.length ch] 45)).heap.size = k := by injection q
              simp only [World.size_alloc] at e3
              exact ⟨q'.1, q'.2, fun e => by have := HL2.out k e; omega⟩) (SameOn.refl _ _))
        obtain ⟨z0, z1, z2, z3, z4, z5, zf⟩ := blk6' ((HK6.out _ (by omega) (fun e => by have := HBB.out.1 _ e; omega)).trans HBX.out)
        obtain ⟨y0, y1, y2, y3, yf⟩ := blk4 ((HK6.out _ (by omega) (fun e => by have := HBB.out.1 _ e; omega)).trans HFB.out)
        clear ho6 hg6 hor6
        refine hK _ _ ?_
        clear hK K
        refine wpAny_ready (rs := [6]) (by kernel_rfl) (by simp) ?_
        refine AllReady.cons rfl (fun K hK => ?_) AllReady.nil
        go_simp
        refine hK _ _ ?_
        clear hK K
        refine wpAny_ready (rs := [7]) (by kernel_rfl) (by simp) ?_
        refine AllReady.cons rfl (fun K hK => ?_) AllReady.nil
        go_simp
        refine hK _ _ ?_
        clear hK K
        refine wpAny_done (by kernel_rfl) ?_ _
        go_wp2_with (fail)
        go_meet
        exact ⟨rfl, _, _, SX.mk9 (f := ⟨fr, p.nm, p.out, l⟩) hszw HBX.out HRB.out HRF.out HFB.out HO2.out HO3.out HBB.out.1 HBB.out.2.1 HBB.out.2.2.1 HBB.out.2.2.2.1 HBB.out.2.2.2.2.1 HK6.out HW6.out HWT.out⟩
      · go_simp
        go_wp2_with (
          go_at_call 58
          refine (copied_new ⟨fr, p.nm, p.out, l⟩ _ _ (HF0.out.step (Below.drew HWB.out)) (by show l.length ≤ 1000000; omega)).mono ?_
          rintro e w5 ⟨h', rfl, hn5, hb5⟩
          obtain ⟨ah, ch, rfl, -⟩ := hn5.form
          have HW5 := Lib.hid (show Below wb.heap.size wb w5 from Below.trans (b := wb.drew) (Below.drew (Below.refl _ _)) hb5)
          have HN5 := Lib.hid (show NewL tRec 49 wb.heap.size w5 (.slice ah l.length ch) l from hn5)
          have hz5 : wb.heap.size ≤ w5.heap.size := hb5.size
          obtain ⟨e0, e1, e2, e3, e4, e5, ef⟩ := blk6' ((HW5.out.block _ (by omega)).trans HBX.out)
          obtain ⟨k0, k1, k2, k3, kf⟩ := blk4 ((HW5.out.block _ (by omega)).trans HFB.out)
          have ak0 := ((bl_alloc (Below.refl w5.heap.size w5) (.cells #[.string fr, .string p.nm, .int .i64 p.out, .slice ah l.length ch] 45)).cell (p := ⟨w.heap.size + 1 + 1 + 1, 0, none⟩) (by show w.heap.size + 1 + 1 + 1 < _; omega)).trans k0
          have ak1 := ((bl_alloc (Below.refl w5.heap.size w5) (.cells #[.string fr, .string p.nm, .int .i64 p.out, .slice ah l.length ch] 45)).cell (p := ⟨w.heap.size + 1 + 1 + 1, 1, none⟩) (by show w.heap.size + 1 + 1 + 1 < _; omega)).trans k1
          have ak2 := ((bl_alloc (Below.refl w5.heap.size w5) (.cells #[.string fr, .string p.nm, .int .i64 p.out, .slice ah l.length ch] 45)).cell (p := ⟨w.heap.size + 1 + 1 + 1, 2, none⟩) (by show w.heap.size + 1 + 1 + 1 < _; omega)).trans k2
          have ak3 := ((bl_alloc (Below.refl w5.heap.size w5) (.cells #[.string fr, .string p.nm, .int .i64 p.out, .slice ah l.length ch] 45)).cell (p := ⟨w.heap.size + 1 + 1 + 1, 3, none⟩) (by show w.heap.size + 1 + 1 + 1 < _; omega)).trans k3
          have ae3 := ((bl_alloc (Below.refl w5.heap.size w5) (.cells #[.string fr, .string p.nm, .int .i64 p.out, .slice ah l.length ch] 45)).cell (p := ⟨w.heap.size, 3, none⟩) (by show w.heap.size < _; omega)).trans e3
          clear hn5 hb5)
        refine wpAny_ready (rs := [1, 4]) (by kernel_rfl) (by simp) ?_
        refine AllReady.cons rfl (fun K hK => ?_) (AllReady.cons rfl (fun K hK => ?_) AllReady.nil)
        · go_simp
          refine hK _ _ ?_
          clear hK K
          refine wpAny_ready (rs := [4]) (by kernel_rfl) (by simp) ?_
          refine AllReady.cons rfl (fun K hK => ?_) AllReady.nil
          go_simp
          refine hK _ _ ?_
          clear hK K
          refine wpAny_ready (rs := [5]) (by kernel_rfl) (by simp) ?_
          refine AllReady.cons rfl (fun K hK => ?_) AllReady.nil
          refine step_append_oneS (.tmp 47) (.tmp 50) rfl 26 rfl slFil rfl (HO1.out.below (fun k hk => HLT.out k hk.1) (HW5.out.trans (bl_alloc (Below.refl w5.heap.size w5) (.cells #[.string fr, .string p.nm, .int .i64 p.out, .slice ah l.length ch] 45) |>.mono hz5))) (fun k hk => ⟨by have := HLT.out k hk.1; simp; omega, hk.2⟩) rfl
            (SlIs.single (T := tFil) (S := fun k => wb.heap.size ≤ k ∧ k < w5.heap.size) (x := ⟨fr, p.nm, p.out, l⟩) (tFil_mk (v := .slice ah l.length ch) ⟨HF0.out.fr, HF0.out.to, HF0.out.sq, HN5.out.sl⟩) (fun k hk => hk.2)) (fun k hk => ?_) (by omega) (by unfold maxLen; omega) (by simp; omega) ?_
          · have hk' : wb.heap.size ≤ k ∧ k < w5.heap.size + 1 := by rcases hk with q | q <;> omega
            exact ⟨by simp; omega, fun e => by have := HLT.out k (HBK.out k e.symm); omega⟩
          intro v3 w6 ho6 hg6 hor6
          have HSL := Lib.hid ho6.sl
          obtain ⟨a3, c3', q3, -⟩ := ho6.form
          rw [List.length_append] at q3
          change v3 = .slice a3 (p.wt.length + 1) c3' at q3
          subst q3
          have HK6 := Lib.hid (show ∀ k, k < wb.heap.size → k ∉ F1 → w6.heap[k]? = wb.heap[k]? from fun k q1 q2 => (hg6.block k (by simp; omega) (fun e => q2 (HBK.out k e.symm))).trans ((Below.heap_alloc _ _ _ (by omega)).trans (HW5.out.block k q1)))
          have hz6 : w5.heap.size + 1 ≤ w6.heap.size := by have := hg6.size; simpa using this
          have HW6 := Lib.hid (show Below w.heap.size w w6 from (HWB.out.trans (HW5.out.mono (by omega))).trans (((bl_alloc (Below.refl w5.heap.size w5) (.cells #[.string fr, .string p.nm, .int .i64 p.out, .slice ah l.length ch] 45)).mono (by omega)).trans (Below.of_grown hg6 (by simp; omega) (fun k e => by have := HBB.out.1 k (HBK.out k e); omega))))
          have HWT := Lib.hid (show SlIs tFil (fun k => w.heap.size + 4 ≤ k ∧ k < w6.heap.size ∧ k ∉ F2) w6 (.slice a3 (p.wt.length + 1) c3') (p.wt ++ [⟨fr, p.nm, p.out, l⟩]) from HSL.out.keep (fun k hk => by
            rcases hk with (q | q) | q
            · exact ⟨HBB.out.1 k q.1, by have := HLT.out k q.1; omega, HBB.out.2.2.2.1 k q.1⟩
            · have q' : wb.heap.size ≤ k ∧ k < w5.heap.size + 1 := by rcases q with q | q <;> omega
              exact ⟨by omega, by omega, fun e => by have := HL2.out k e; omega⟩
            · have q' := ho6.own_lt k q
              rcases hor6 with e | e
              · have e2 := HBK.out k (e.symm.trans q)
                exact ⟨q'.1, q'.2, HBB.out.2.2.2.1 k e2⟩
              · rw [e] at q
                have e3 : (w5.alloc (.cells #[.string fr, .string p.nm, .int .i64 p.out, .slice ah l.length ch] 45)).heap.size = k := by injection q
                simp only [World.size_alloc] at e3
                exact ⟨q'.1, q'.2, fun e => by have := HL2.out k e; omega⟩) (SameOn.refl _ _))
          obtain ⟨z0, z1, z2, z3, z4, z5, zf⟩ := blk6' ((HK6.out _ (by omega) (fun e => by have := HBB.out.1 _ e; omega)).trans HBX.out)
          obtain ⟨y0, y1, y2, y3, yf⟩ := blk4 ((HK6.out _ (by omega) (fun e => by have := HBB.out.1 _ e; omega)).trans HFB.out)
          clear ho6 hg6 hor6
          refine hK _ _ ?_
          clear hK K
          refine wpAny_ready (rs := [6]) (by kernel_rfl) (by simp) ?_
          refine AllReady.cons rfl (fun K hK => ?_) AllReady.nil
          go_simp
          refine hK _ _ ?_
          clear hK K
          refine wpAny_ready (rs := [7]) (by kernel_rfl) (by simp) ?_
          refine AllReady.cons rfl (fun K hK => ?_) AllReady.nil
          go_simp
          refine hK _ _ ?_
          clear hK K
          refine wpAny_done (by kernel_rfl) ?_ _
          go_wp2_with (fail)
          go_meet
          exact ⟨rfl, _, _, SX.mk9 (f := ⟨fr, p.nm, p.out, l⟩) hszw HBX.out HRB.out HRF.out HFB.out HO2.out HO3.out HBB.out.1 HBB.out.2.1 HBB.out.2.2.1 HBB.out.2.2.2.1 HBB.out.2.2.2.2.1 HK6.out HW6.out HWT.out⟩
        · go_simp
          refine hK _ _ ?_
          clear hK K
          refine wpAny_ready (rs := [1]) (by kernel_rfl) (by simp) ?_
          refine AllReady.cons rfl (fun K hK => ?_) AllReady.nil
          go_simp
          refine hK _ _ ?_
          clear hK K
          refine wpAny_ready (rs := [5]) (by kernel_rfl) (by simp) ?_
          refine AllReady.cons rfl (fun K hK => ?_) AllReady.nil
          refine step_append_oneS (.tmp 47) (.tmp 50) rfl 26 rfl slFil rfl (HO1.out.below (fun k hk => HLT.out k hk.1) (HW5.out.trans (bl_alloc (Below.refl w5.heap.size w5) (.cells #[.string fr, .string p.nm, .int .i64 p.out, .slice ah l.length ch] 45) |>.mono hz5))) (fun k hk => ⟨by have := HLT.out k hk.1; simp; omega, hk.2⟩) rfl
            (SlIs.single (T := tFil) (S := fun k => wb.heap.size ≤ k ∧ k < w5.heap.size) (x := ⟨fr, p.nm, p.out, l⟩) (tFil_mk (v := .slice ah l.length ch) ⟨HF0.out.fr, HF0.out.to, HF0.out.sq, HN5.out.sl⟩) (fun k hk => hk.2)) (fun k hk => ?_) (by omega) (by unfold maxLen; omega) (by simp; omega) ?_
          · have hk' : wb.heap.size ≤ k ∧ k < w5.heap.size + 1 := by rcases hk with q | q <;> omega
            exact ⟨by simp; omega, fun e => by have := HLT.out k (HBK.out k e.symm); omega⟩
          intro v3 w6 ho6 hg6 hor6
          have HSL := Lib.hid ho6.sl
          obtain ⟨a3, c3', q3, -⟩ := ho6.form
          rw [List.length_append] at q3
          change v3 = .slice a3 (p.wt.length + 1) c3' at q3
          subst q3
          have HK6 := Lib.hid (show ∀ k, k < wb.heap.size → k ∉ F1 → w6.heap[k]? = wb.heap[k]? from fun k q1 q2 => (hg6.block k (by simp; omega) (fun e => q2 (HBK.out k e.symm))).trans ((Below.heap_alloc _ _ _ (by omega)).trans (HW5.out.block k q1)))
          have hz6 : w5.heap.size + 1 ≤ w6.heap.size := by have := hg6.size; simpa using this
          have HW6 := Lib.hid (show Below w.heap.size w w6 from (HWB.out.trans (HW5.out.mono (by omega))).trans (((bl_alloc (Below.refl w5.heap.size w5) (.cells #[.string fr, .string p.nm, .int .i64 p.out, .slice ah l.length ch] 45)).mono (by omega)).trans (Below.of_grown hg6 (by simp; omega) (fun k e => by have := HBB.out.1 k (HBK.out k e); omega))))
          have HWT := Lib.hid (show SlIs tFil (fun k => w.heap.size + 4 ≤ k ∧ k < w6.heap.size ∧ k ∉ F2) w6 (.slice a3 (p.wt.length + 1) c3') (p.wt ++ [⟨fr, p.nm, p.out, l⟩]) from HSL.out.keep (fun k hk => by
            rcases hk with (q | q) | q
            · exact ⟨HBB.out.1 k q.1, by have := HLT.out k q.1; omega, HBB.out.2.2.2.1 k q.1⟩
            · have q' : wb.heap.size ≤ k ∧ k < w5.heap.size + 1 := by rcases q with q | q <;> omega
              exact ⟨by omega, by omega, fun e => by have := HL2.out k e; omega⟩
            · have q' := ho6.own_lt k q
              rcases hor6 with e | e
              · have e2 := HBK.out k (e.symm.trans q)
                exact ⟨q'.1, q'.2, HBB.out.2.2.2.1 k e2⟩
              · rw [e] at q
                have e3 : (w5.alloc (.cells #[.string fr, .string p.nm, .int .i64 p.out, .slice ah l.length ch] 45)).heap.size = k := by injection q
                simp only [World.size_alloc] at e3
                exact ⟨q'.1, q'.2, fun e => by have := HL2.out k e; omega⟩) (SameOn.refl _ _))
          obtain ⟨z0, z1, z2, z3, z4, z5, zf⟩ := blk6' ((HK6.out _ (by omega) (fun e => by have := HBB.out.1 _ e; omega)).trans HBX.out)
          obtain ⟨y0, y1, y2, y3, yf⟩ := blk4 ((HK6.out _ (by omega) (fun e => by have := HBB.out.1 _ e; omega)).trans HFB.out)
          clear ho6 hg6 hor6
          refine hK _ _ ?_
          clear hK K
          refine wpAny_ready (rs := [6]) (by kernel_rfl) (by simp) ?_
          refine AllReady.cons rfl (fun K hK => ?_) AllReady.nil
          go_simp
          refine hK _ _ ?_
          clear hK K
          refine wpAny_ready (rs := [7]) (by kernel_rfl) (by simp) ?_
          refine AllReady.cons rfl (fun K hK => ?_) AllReady.nil
          go_simp
          refine hK _ _ ?_
          clear hK K
          refine wpAny_done (by kernel_rfl) ?_ _
          go_wp2_with (fail)
          go_meet
          exact ⟨rfl, _, _, SX.mk9 (f := ⟨fr, p.nm, p.out, l⟩) hszw HBX.out HRB.out HRF.out HFB.out HO2.out HO3.out HBB.out.1 HBB.out.2.1 HBB.out.2.2.1 HBB.out.2.2.2.1 HBB.out.2.2.2.2.1 HK6.out HW6.out HWT.out⟩
  case rest =>
    clear HBX HRB HRF HFB c0 c1 c2 c3 c4 c5 cf g0 g1 g2 g3 gf HO1 HO2 HO3 HLT HBK HL2 HWB hszw
    obtain ⟨rfl, a3, c3', hX⟩ := hcut
    have HX := Lib.hid hX
    clear hX
    obtain ⟨c0, c1, c2, c3, c4, c5, cf⟩ := blk6' HX.out.box
    have hzX : w.heap.size + 4 ≤ _ := lt_of_heap HX.out.fb
    have HOW := Lib.hid (HX.out.ours.to HND.out HBB.out.2.1)
    have HBK2 := Lib.hid HX.out.ours.blk
    have HFR := Lib.hid (HL.out.keep (fun _ h => h) (.of_below HX.out.bel))
    go_upto_region 11 with (
      at_builtin
      refine wpList_append_sl (.tmp 54) (.tmp 55) rfl 27 rfl slRec rfl HOW.out rfl HFR.out (fun k (hk : k < w.heap.size) => ⟨by omega, fun e => by have := HBB.out.2.1 k (HBK2.out k e.symm); omega⟩) (by omega) (by unfold maxLen; omega) (by omega) ?_
      intro v7 w7 ho7 hg7 hor7
      obtain ⟨a7, c7, e7, -⟩ := id ho7.form
      rw [List.length_append] at e7
      subst e7
      have HO7 := Lib.hid ho7
      have HG7 := Lib.hid hg7
      have HOR7 := Lib.hid hor7
      have HK7 := Lib.hid (show ∀ k, k < _ → k ∉ F2 → w7.heap[k]? = _ from fun k q1 q2 => hg7.block k q1 (fun e => q2 (HBK2.out k e.symm)))
      obtain ⟨z0, z1, z2, z3, z4, z5, zf⟩ := blk6' ((HK7.out _ (by omega) (fun e => by have := HBB.out.2.1 _ e; omega)).trans HX.out.box)
      clear ho7 hg7 hor7)
    obtain ⟨wc, hwc⟩ : ∃ wc, w7.setCell ⟨w.heap.size, 4, none⟩ (.slice a7 (p.ours.length + l.length) c7) = wc := ⟨_, rfl⟩
    have hy := SX.push HX.out HBB.out.2.1 HBB.out.2.2.1 HBB.out.2.2.2.2.2 HG7.out HO7.out HP.out (by unfold i64ok; omega)
    rw [hwc] at hy ⊢
    have HY := Lib.hid hy
    clear HX HO7 HG7 HOR7 HK7 HOW HBK2 HFR hwc hy z0 z1 z2 z3 z4 z5 zf c0 c1 c2 c3 c4 c5 cf hzX
    obtain ⟨c0, c1, c2, c3, c4, c5, cf⟩ := blk6' HY.out.box
    obtain ⟨g0, g1, g2, g3, gf⟩ := blk4 HY.out.fb
    obtain ⟨d0, d1, d2, d3, d4, d5, df⟩ := blk6' HY.out.rb
    obtain ⟨f0, f1, f2, f3, ff⟩ := blk4 HY.out.rf
    have hzY : w.heap.size + 4 ≤ wc.heap.size := lt_of_heap HY.out.fb
    have nf1 : w.heap.size + 1 + 1 + 1 ≠ w.heap.size + 1 := by omega
    have nf2 : w.heap.size + 1 + 1 + 1 ≠ w.heap.size + 1 + 1 := by omega
    have nb1 : w.heap.size ≠ w.heap.size + 1 := by omega
    have nb2 : w.heap.size ≠ w.heap.size + 1 + 1 := by omega
    go_region_held3 (fun w' => w'.cell? ⟨w.heap.size + 1 + 1 + 1, 0, none⟩ = some (.string fr) ∧ w'.cell? ⟨w.heap.size + 1 + 1 + 1, 1, none⟩ = some (.string p.nm) ∧ w'.cell? ⟨w.heap.size + 1 + 1 + 1, 2, none⟩ = some (.int .i64 p.out) ∧ w'.cell? ⟨w.heap.size + 1 + 1 + 1, 3, none⟩ = some (.slice al l.length cl) ∧
        w'.cell? ⟨w.heap.size, 0, none⟩ = some (.string p.nm) ∧ w'.cell? ⟨w.heap.size, 1, none⟩ = some (.int .i64 (p.out + 1)) ∧ w'.cell? ⟨w.heap.size, 2, none⟩ = some (.int .i64 p.inn) ∧ w'.cell? ⟨w.heap.size, 3, none⟩ = some (.slice a3 (p.wt.length + 1) c3') ∧ w'.cell? ⟨w.heap.size, 4, none⟩ = some (.slice a7 (p.ours.length + l.length) c7) ∧ w'.cell? ⟨w.heap.size, 5, none⟩ = some (.slice at2 p.thr.length ct2))
      (first
        | with_reducible exact ⟨keep4 (keep6 k0 nf1) nf2, keep4 (keep6 k1 nf1) nf2, keep4 (keep6 k2 nf1) nf2, keep4 (keep6 k3 nf1) nf2, keep4 (keep6 e0 nb1) nb2, keep4 (keep6 e1 nb1) nb2, keep4 (keep6 e2 nb1) nb2, keep4 (keep6 e3 nb1) nb2, keep4 (keep6 e4 nb1) nb2, keep4 (keep6 e5 nb1) nb2⟩
        | with_reducible exact ⟨keep6 (keep4 k0 nf2) nf1, keep6 (keep4 k1 nf2) nf1, keep6 (keep4 k2 nf2) nf1, keep6 (keep4 k3 nf2) nf1, keep6 (keep4 e0 nb2) nb1, keep6 (keep4 e1 nb2) nb1, keep6 (keep4 e2 nb2) nb1, keep6 (keep4 e3 nb2) nb1, keep6 (keep4 e4 nb2) nb1, keep6 (keep4 e5 nb2) nb1⟩
        | with_reducible exact ⟨keep6 k0 nf1, keep6 k1 nf1, keep6 k2 nf1, keep6 k3 nf1, keep6 e0 nb1, keep6 e1 nb1, keep6 e2 nb1, keep6 e3 nb1, keep6 e4 nb1, keep6 e5 nb1⟩
        | with_reducible exact ⟨keep4 k0 nf2, keep4 k1 nf2, keep4 k2 nf2, keep4 k3 nf2, keep4 e0 nb2, keep4 e1 nb2, keep4 e2 nb2, keep4 e3 nb2, keep4 e4 nb2, keep4 e5 nb2⟩
        | with_reducible exact ⟨k0, k1, k2, k3, e0, e1, e2, e3, e4, e5⟩
        | with_reducible exact ⟨g0, g1, g2, g3, c0, c1, c2, c3, c4, c5⟩
        | go_keep)
      ((go_at_call 58
        refine (copied_new ⟨fr, p.nm, p.out, l⟩ _ _ (HF0.out.step (Below.drew HY.out.bel)) (by show l.length ≤ 1000000; omega)).mono ?_
        rintro e w8 ⟨h', rfl, hn8, hb8⟩
        obtain ⟨ah, ch, rfl, -⟩ := hn8.form
        have HW8 := Lib.hid (show Below wc.heap.size wc w8 from Below.trans (b := wc.drew) (Below.drew (Below.refl _ _)) hb8)
        have HN8 := Lib.hid (show NewL tRec 49 wc.heap.size w8 (.slice ah l.length ch) l from hn8)
        have hz8 : wc.heap.size ≤ w8.heap.size := hb8.size
        obtain ⟨e0, e1, e2, e3, e4, e5, ef⟩ := blk6' ((HW8.out.block _ (by omega)).trans HY.out.box)
        obtain ⟨k0, k1, k2, k3, kf⟩ := blk4 ((HW8.out.block _ (by omega)).trans HY.out.fb)
        obtain ⟨r0, r1, r2, r3, r4, r5, rf⟩ := blk6' ((HW8.out.block _ (by omega)).trans HY.out.rb)
        obtain ⟨s0, s1, s2, s3, sf⟩ := blk4 ((HW8.out.block _ (by omega)).trans HY.out.rf)
        clear hn8 hb8))
    all_goals
      go_wp2_with (fail)
      have HS8 : SameOn (fun k => w.heap.size + 4 ≤ k ∧ k < wc.heap.size) wc w8 := fun k hk => HW8.out.block k hk.2
      have HR8 : SameOn (fun k => wc.heap.size ≤ k ∧ k < w8.heap.size) w8 w8 := SameOn.refl _ _
      have HB8 : Below w.heap.size w w8 := bl_trans HY.out.bel HW8.out
      refine bodyPost_ret (v := .tuple #[.agg #[.string p.nm, .int .i64 (p.out + 1), .int .i64 p.inn, .slice a3 (p.wt.length + 1) c3', .slice a7 (p.ours.length + l.length) c7, .slice at2 p.thr.length ct2], .agg #[.string fr, .string p.nm, .int .i64 p.out, .slice ah l.length ch], .int .i64 0]) (by simp [results, Tryz.results32, go_sem, r0, r1, r2, r3, r4, r5, s0, s1, s2, s3]) rfl
        ⟨ses_mk (p := { p with out := p.out + 1, wt := p.wt ++ [⟨fr, p.nm, p.out, l⟩], ours := p.ours ++ l }) (f := ⟨fr, p.nm, p.out, l⟩) HC.out (HY.out.ok.keep (fun k hk => ?_) ?_) ⟨HF0.out.fr, HF0.out.to, HF0.out.sq, HN8.out.sl.keep (fun k hk => ?_) ?_⟩, ?_⟩
      · refine .inr ⟨by have := hk.1; omega, ?_⟩
        have := hk.2
        simp
        omega
      · (repeat (first | (with_reducible exact HS8) | (with_reducible exact SameOn.refl _ _) | ((with_reducible refine SameOn.set ?_ ?_ _); rotate_left; focus (first | (simp; done) | (simp; omega))) | (with_reducible apply SameOn.drewN)))
      · refine ⟨by have := hk.1; omega, ?_⟩
        have := hk.2
        simpa using this
      · (repeat (first | (with_reducible exact HR8) | (with_reducible exact SameOn.refl _ _) | ((with_reducible refine SameOn.set ?_ ?_ _); rotate_left; focus (first | (simp; done) | (simp; omega))) | (with_reducible apply SameOn.drewN)))
      · (repeat (first | (with_reducible exact HB8) | (with_reducible apply bl_drewN) | (with_reducible apply bl_alloc) | ((with_reducible refine bl_set ?_ _ ?_); rotate_left; focus (first | exact Nat.le_refl _ | (simp; done) | (simp; omega)))))
theorem send_any (p : Par) (fr : ByteArray) (l : List Rec) (vw vo vt vl : Value) (w : World) (h : ParOk (· < w.heap.size) w p vw vo vt) (hs : SmallP p) (hfr : fr.size ≤ maxLen) (hl : SlIs tRec (· < w.heap.size) w vl l) :
    Calls Tryz.prog 32 #[.agg #[.string p.nm, .int .i64 p.out, .int .i64 p.inn, vw, vo, vt], .string fr, vl] w fun e w' => SE w' e (sendC p fr l) ∧ Below w.heap.size w w' :=
  (send_gen (· < w.heap.size) p fr l vw vo vt vl w h (fun _ hk => hk) hs hfr hl).mono fun _ _ ⟨h1, h2⟩ => ⟨h1.se h2, h2⟩
end Go.Proofs.YtmjbbpappigngaaGreat
