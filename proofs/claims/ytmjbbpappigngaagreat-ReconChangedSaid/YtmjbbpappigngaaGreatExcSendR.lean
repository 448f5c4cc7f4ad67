/-
  Layer 43 (exchange): the walk of the reference's Send.
-/
import Derived.Test.YtmjbbpappigngaaGreatExcSend
import Derived.Test.YtmjbbpappigngaaGreatHeld
namespace Go.Proofs.YtmjbbpappigngaaGreat
open Go.RowKit Go.Tw Go.Tw.Exc
/-- the file has been made in the box b9; its records are new -/
structure FBox (W : World) (f : Fil) (b9 : Nat) (vh : Value) (wx : World) : Prop where
  box : wx.heap[b9]? = some (.cells #[.string f.fr, .string f.to, .int .i64 f.sq, vh] 45 (0, 0))
  bel : Below W.heap.size W wx
  lo : W.heap.size ≤ b9
  rs : SlIs tRec (fun k => W.heap.size ≤ k ∧ k < wx.heap.size ∧ k ≠ b9) wx vh f.rs
theorem FBox.mk_alloc {W w4 : World} {f : Fil} {v : Value} (hb : Below W.heap.size W w4) (hn : NewL tRec 49 W.heap.size w4 v f.rs) : FBox W f w4.heap.size v (w4.alloc (.cells #[.string f.fr, .string f.to, .int .i64 f.sq, v] 45)) :=
  ⟨alloc1_0 _ _, bl_alloc hb _, hb.size, hn.sl.keep (fun k hk => ⟨hk.1, by simp; omega, by omega⟩) (fun k hk => Below.heap_alloc _ _ _ hk.2)⟩
theorem FBox.mk_set {W w4 : World} {f : Fil} {v z0 z1 z2 z3 : Value} {b9 : Nat} (hb : Below W.heap.size W w4) (h9 : W.heap.size ≤ b9) (hx : w4.heap[b9]? = some (.cells #[z0, z1, z2, z3] 45 (0, 0))) (hn : NewL tRec 49 (b9 + 1) w4 v f.rs) :
    FBox W f b9 v ((((w4.setCell ⟨b9, 0, none⟩ (.string f.fr)).setCell ⟨b9, 1, none⟩ (.string f.to)).setCell ⟨b9, 2, none⟩ (.int .i64 f.sq)).setCell ⟨b9, 3, none⟩ v) := by
  have hne : ∀ k, k ≠ b9 → ((((w4.setCell ⟨b9, 0, none⟩ (.string f.fr)).setCell ⟨b9, 1, none⟩ (.string f.to)).setCell ⟨b9, 2, none⟩ (.int .i64 f.sq)).setCell ⟨b9, 3, none⟩ v).heap[k]? = w4.heap[k]? := fun k h =>
    (Below.heap_setCell _ _ _ _ h).trans ((Below.heap_setCell _ _ _ _ h).trans ((Below.heap_setCell _ _ _ _ h).trans (Below.heap_setCell _ _ _ _ h)))
  refine ⟨heap_setCell_same _ _ 3 _ _ _ (heap_setCell_same _ _ 2 _ _ _ (heap_setCell_same _ _ 1 _ _ _ (heap_setCell_same _ _ 0 _ _ _ hx))), bl_set (bl_set (bl_set (bl_set hb _ h9) _ h9) _ h9) _ h9, h9, hn.sl.keep (fun k hk => ⟨by omega, by simp; omega, by omega⟩) (fun k hk => hne k (by omega))⟩
/-- behind the append to Waiting: box b11 holds the partner, b9 the file -/
structure SXR (w : World) (p : Par) (f : Fil) (vh : Value) (b9 b11 B : Nat) (F2 F3 : List Nat) (vw vo vt : Value) (wt : List Fil) (wx : World) : Prop where
  box : wx.heap[b11]? = some (.cells #[.string p.nm, .int .i64 (p.out + 1), .int .i64 p.inn, vw, vo, vt] 29 (0, 0))
  rb : wx.heap[w.heap.size + 1]? = some (.cells #[.string ByteArray.empty, .int .i64 0, .int .i64 0, .slice none 0 0, .slice none 0 0, .slice none 0 0] 29 (0, 0))
  rf : wx.heap[w.heap.size + 1 + 1]? = some (.cells #[.string ByteArray.empty, .string ByteArray.empty, .int .i64 0, .slice none 0 0] 45 (0, 0))
  fb : wx.heap[b9]? = some (.cells #[.string f.fr, .string f.to, .int .i64 f.sq, vh] 45 (0, 0))
  bel : Below w.heap.size w wx
  rs : SlIs tRec (fun k => w.heap.size + 3 ≤ k ∧ k < B ∧ k ≠ b9) wx vh f.rs
  wt : SlIs tFil (fun k => B ≤ k ∧ k < wx.heap.size ∧ k ≠ b11 ∧ k ∉ F2) wx vw wt
  ours : OwnL tRec 49 F2 wx vo p.ours
  thr : OwnL tRec 49 F3 wx vt p.thr
structure SYR (w : World) (f : Fil) (vh : Value) (b9 b11 : Nat) (p' : Par) (vw vo vt : Value) (wx : World) : Prop where
  box : wx.heap[b11]? = some (.cells #[.string p'.nm, .int .i64 p'.out, .int .i64 p'.inn, vw, vo, vt] 29 (0, 0))
  rb : wx.heap[w.heap.size + 1]? = some (.cells #[.string ByteArray.empty, .int .i64 0, .int .i64 0, .slice none 0 0, .slice none 0 0, .slice none 0 0] 29 (0, 0))
  rf : wx.heap[w.heap.size + 1 + 1]? = some (.cells #[.string ByteArray.empty, .string ByteArray.empty, .int .i64 0, .slice none 0 0] 45 (0, 0))
  fb : wx.heap[b9]? = some (.cells #[.string f.fr, .string f.to, .int .i64 f.sq, vh] 45 (0, 0))
  bel : Below w.heap.size w wx
  rs : SlIs tRec (fun k => w.heap.size + 3 ≤ k ∧ k < wx.heap.size) wx vh f.rs
  ok : ParOk (fun k => w.heap.size + 3 ≤ k ∧ k < wx.heap.size) wx p' vw vo vt
theorem sameDrew {S : Nat → Prop} {w w0 : World} (h : SameOn S w0 w) : SameOn S w0 w.drew := h
theorem drewC {w : World} {q : Addr} {u : Value} (h : w.cell? q = some u) : w.drew.cell? q = some u := h
theorem SXR.mk9 {w wb w7 : World} {p : Par} {f : Fil} {vh vw0 vw vo vt : Value} {b9 b11 B : Nat} {F1 F2 F3 : List Nat} {wt : List Fil} (h9 : b9 < B) (h93 : w.heap.size + 3 ≤ b9) (h11 : B ≤ b11)
    (hbx : wb.heap[b11]? = some (.cells #[.string p.nm, .int .i64 (p.out + 1), .int .i64 p.inn, vw0, vo, vt] 29 (0, 0)))
    (hrb : wb.heap[w.heap.size + 1]? = some (.cells #[.string ByteArray.empty, .int .i64 0, .int .i64 0, .slice none 0 0, .slice none 0 0, .slice none 0 0] 29 (0, 0)))
    (hrf : wb.heap[w.heap.size + 1 + 1]? = some (.cells #[.string ByteArray.empty, .string ByteArray.empty, .int .i64 0, .slice none 0 0] 45 (0, 0)))
    (hfb : wb.heap[b9]? = some (.cells #[.string f.fr, .string f.to, .int .i64 f.sq, vh] 45 (0, 0)))
    (hrs : SlIs tRec (fun k => w.heap.size + 3 ≤ k ∧ k < B ∧ k ≠ b9) wb vh f.rs)
    (h2 : OwnL tRec 49 F2 wb vo p.ours) (h3 : OwnL tRec 49 F3 wb vt p.thr) (b1 : ∀ b ∈ F1, B ≤ b ∧ b ≠ b11) (b2 : ∀ b ∈ F2, B ≤ b ∧ b ≠ b11) (b3 : ∀ b ∈ F3, B ≤ b ∧ b ≠ b11) (d12 : ∀ b ∈ F1, b ∉ F2) (d13 : ∀ b ∈ F1, b ∉ F3)
    (hk : ∀ k, k < wb.heap.size → k ∉ F1 → w7.heap[k]? = wb.heap[k]?) (hW : Below w.heap.size w w7) (hwt : SlIs tFil (fun k => B ≤ k ∧ k < w7.heap.size ∧ k ≠ b11 ∧ k ∉ F2) w7 vw wt) :
    SXR w p f vh b9 b11 B F2 F3 vw vo vt wt (w7.setCell ⟨b11, 3, none⟩ vw) := by
  have hn : ∀ k, k < B → k ∉ F1 := fun k h q => by have := (b1 k q).1; omega
  have hb : B ≤ wb.heap.size := by have := lt_of_heap hbx; omega
  have hs : ∀ k, k ≠ b11 → (w7.setCell ⟨b11, 3, none⟩ vw).heap[k]? = w7.heap[k]? := fun k h => Below.heap_setCell _ _ _ _ h
  have hlo : w.heap.size ≤ b11 := by omega
  refine ⟨st6_3 ((hk _ (lt_of_heap hbx) (fun e => (b1 _ e).2 rfl)).trans hbx), (hs _ (by omega)).trans ((hk _ (by omega) (hn _ (by omega))).trans hrb), (hs _ (by omega)).trans ((hk _ (by omega) (hn _ (by omega))).trans hrf), (hs _ (by omega)).trans ((hk _ (by omega) (hn _ h9)).trans hfb), bl_set hW _ hlo, ?_,
    hwt.keep (fun k q => ⟨q.1, by simpa using q.2.1, q.2.2⟩) (fun k q => hs k q.2.2.1), h2.keep (fun b hb => (hs b (b2 b hb).2).trans (hk b (h2.lt b hb) (fun q => d12 b q hb))), h3.keep (fun b hb => (hs b (b3 b hb).2).trans (hk b (h3.lt b hb) (fun q => d13 b q hb)))⟩
  exact hrs.keep (fun _ q => q) (fun k q => (hs k (by have := q.2.1; omega)).trans (hk k (by have := q.2.1; omega) (hn k q.2.1)))
theorem SXR.push {w wx w7 : World} {p : Par} {f : Fil} {vh vw vo vt v7 : Value} {b9 b11 B : Nat} {F2 F3 : List Nat} {wt : List Fil} {l : List Rec} (h : SXR w p f vh b9 b11 B F2 F3 vw vo vt wt wx) (h9 : b9 < B) (h93 : w.heap.size + 3 ≤ b9) (h11 : B ≤ b11) (b2 : ∀ b ∈ F2, B ≤ b ∧ b ≠ b11) (b3 : ∀ b ∈ F3, B ≤ b ∧ b ≠ b11) (d23 : ∀ b ∈ F2, b ∉ F3)
    (hg : wx.grownBy w7 vo.ownBlock) (ho : OwnSl tRec 49 B w7 v7 (p.ours ++ l)) (hor : v7.ownBlock = vo.ownBlock ∨ v7.ownBlock = some wx.heap.size) {S : Nat → Prop} {w0 : World} {a b c : Value} (h0 : ParOk S w0 p a b c) (hn : i64ok (p.out + 1)) :
    SYR w f vh b9 b11 { p with out := p.out + 1, wt := wt, ours := p.ours ++ l } vw v7 vt (w7.setCell ⟨b11, 4, none⟩ v7) := by
  have hblk := h.ours.blk
  have hsz := hg.size
  have hk : ∀ k, k < wx.heap.size → k ∉ F2 → w7.heap[k]? = wx.heap[k]? := fun k q1 q2 => hg.block k q1 (fun e => q2 (hblk k e.symm))
  have h11' : b11 < wx.heap.size := lt_of_heap h.box
  have h9' : b9 < wx.heap.size := lt_of_heap h.fb
  have hs : ∀ k, k ≠ b11 → (w7.setCell ⟨b11, 4, none⟩ v7).heap[k]? = w7.heap[k]? := fun k q => Below.heap_setCell _ _ _ _ q
  have hn2 : ∀ k, k < B → k ∉ F2 := fun k q e => by have := (b2 k e).1; omega
  have hlo : w.heap.size ≤ b11 := by omega
  refine ⟨st6_4 ((hk _ h11' (fun e => (b2 _ e).2 rfl)).trans h.box), (hs _ (by omega)).trans ((hk _ (by omega) (hn2 _ (by omega))).trans h.rb), (hs _ (by omega)).trans ((hk _ (by omega) (hn2 _ (by omega))).trans h.rf), (hs _ (by omega)).trans ((hk _ h9' (hn2 _ h9)).trans h.fb), ?_, ?_, ⟨h0.nm, hn, h0.inn, ?_, ?_, ?_⟩⟩
  · exact bl_set (h.bel.trans (Below.of_grown hg (by omega) (fun k e => by have := (b2 k (hblk k e)).1; omega))) _ hlo
  · exact h.rs.keep (fun k q => ⟨q.1, by have := q.2.1; simp; omega⟩) (fun k q => (hs k (by have := q.2.1; omega)).trans (hk k (by have := q.2.1; omega) (hn2 k q.2.1)))
  · exact h.wt.keep (fun k q => ⟨by have := q.1; omega, by have := q.2.1; simp; omega⟩) (fun k q => (hs k q.2.2.1).trans (hk k q.2.1 q.2.2.2))
  · obtain ⟨q1, -, -⟩ := OwnL.ofOwn (T := tRec) ownRec ho
    refine q1.sl.keep (fun k hk => ?_) (fun k hk => hs k ?_)
    · have hk' : v7.ownBlock = some k := by simpa using hk
      have := ho.own_lt k hk'
      exact ⟨by omega, by simpa using this.2⟩
    · have hk' : v7.ownBlock = some k := by simpa using hk
      rcases hor with e | e
      · exact (b2 k (hblk k (by rw [← e]; exact hk'))).2
      · rw [e] at hk'
        have : wx.heap.size = k := by injection hk'
        omega
  · exact h.thr.sl.keep (fun k q => ⟨by have := (b3 k q).1; omega, by have := h.thr.lt k q; simp; omega⟩) (fun k q => (hs k (b3 k q).2).trans (hk k (h.thr.lt k q) (fun e => d23 k e q)))
set_option maxRecDepth 100000 in
set_option maxHeartbeats 8000000 in
theorem sendR_gen (S : Nat → Prop) (p : Par) (fr : ByteArray) (l : List Rec) (vw vo vt vl : Value) (w : World) (hsp : ParOk S w p vw vo vt) (hss : ∀ k, S k → k < w.heap.size) (hs : SmallP p) (hfr : fr.size ≤ maxLen) (hl : SlIs tRec (· < w.heap.size) w vl l) (hll : l.length ≤ 2000) :
    Calls Tryz.prog 25 #[.agg #[.string p.nm, .int .i64 p.out, .int .i64 p.inn, vw, vo, vt], .string fr, vl] w fun e w' => SEs S w w' e (sendC p fr l) ∧ Below w.heap.size w w' := by
  have h : ParOk (· < w.heap.size) w p vw vo vt := hsp.keep hss (SameOn.refl _ _)
  have HP := Lib.hid h
  have HPS := Lib.hid hsp
  have HSS := Lib.hid hss
  have HS := Lib.hid hs
  have HL := Lib.hid hl
  obtain ⟨aw, cw, bw, ow, rfl, hw1, hw2, -⟩ := id h.wt
  obtain ⟨ao, co, bo, oo, rfl, ho1, ho2, -⟩ := id h.ours
  obtain ⟨at', ct, bt, ot, rfl, ht1, ht2, -⟩ := id h.thr
  obtain ⟨al, cl, bl, ol, rfl, hl1, hl2, -⟩ := id hl
  unfold maxLen at hw2 ho2 ht2 hl2
  have hout := h.out
  unfold i64ok at hout
  have hsw := hs.wt
  have hso := hs.ours
  have HF0 := Lib.hid (show fr.size ≤ maxLen ∧ p.nm.size ≤ maxLen ∧ i64ok p.out from ⟨hfr, h.nm, h.out⟩)
  clear h hs hl hfr hsp hss
  go_enter Tryz.func25, Tryz.ntmps25
  go_upto_region 1 with (fail)
  have n0 := alloc3_0 w (.cells #[.string p.nm, .int .i64 p.out, .int .i64 p.inn, .slice aw p.wt.length cw, .slice ao p.ours.length co, .slice at' p.thr.length ct] 29) (.cells #[.string ⟨#[]⟩, .int .i64 0, .int .i64 0, .slice none 0 0, .slice none 0 0, .slice none 0 0] 29) (.cells #[.string ⟨#[]⟩, .string ⟨#[]⟩, .int .i64 0, .slice none 0 0] 45)
  have n1 := alloc3_1 w (.cells #[.string p.nm, .int .i64 p.out, .int .i64 p.inn, .slice aw p.wt.length cw, .slice ao p.ours.length co, .slice at' p.thr.length ct] 29) (.cells #[.string ⟨#[]⟩, .int .i64 0, .int .i64 0, .slice none 0 0, .slice none 0 0, .slice none 0 0] 29) (.cells #[.string ⟨#[]⟩, .string ⟨#[]⟩, .int .i64 0, .slice none 0 0] 45)
  have n2 := alloc3_2 w (.cells #[.string p.nm, .int .i64 p.out, .int .i64 p.inn, .slice aw p.wt.length cw, .slice ao p.ours.length co, .slice at' p.thr.length ct] 29) (.cells #[.string ⟨#[]⟩, .int .i64 0, .int .i64 0, .slice none 0 0, .slice none 0 0, .slice none 0 0] 29) (.cells #[.string ⟨#[]⟩, .string ⟨#[]⟩, .int .i64 0, .slice none 0 0] 45)
  obtain ⟨wa, hwa⟩ : ∃ wa, ((w.alloc (.cells #[.string p.nm, .int .i64 p.out, .int .i64 p.inn, .slice aw p.wt.length cw, .slice ao p.ours.length co, .slice at' p.thr.length ct] 29)).alloc (.cells #[.string ⟨#[]⟩, .int .i64 0, .int .i64 0, .slice none 0 0, .slice none 0 0, .slice none 0 0] 29)).alloc (.cells #[.string ⟨#[]⟩, .string ⟨#[]⟩, .int .i64 0, .slice none 0 0] 45) = wa := ⟨_, rfl⟩
  have hsz : wa.heap.size = w.heap.size + 1 + 1 + 1 := by rw [← hwa]; simp
  have HW := Lib.hid (show Below w.heap.size w wa by rw [← hwa]; exact bl_alloc (bl_alloc (bl_alloc (Below.refl _ _) _) _) _)
  rw [hwa] at n0 n1 n2 ⊢
  clear hwa
  obtain ⟨c0, c1, c2, c3, c4, c5, cf⟩ := blk6' n0
  have hlt0 : w.heap.size < wa.heap.size := by omega
  have HN0 := Lib.hid n0
  have HN1 := Lib.hid n1
  have HN2 := Lib.hid n2
  have HKE := Lib.hid (show ∀ W, Below wa.heap.size wa W → W.cell? ⟨w.heap.size, 0, none⟩ = some (.string p.nm) ∧ W.cell? ⟨w.heap.size, 1, none⟩ = some (.int .i64 p.out) from fun W hW => ⟨(hW.cell (p := ⟨w.heap.size, 0, none⟩) hlt0).trans c0, (hW.cell (p := ⟨w.heap.size, 1, none⟩) hlt0).trans c1⟩)
  have HREC := Lib.hid (show ∀ W, Below wa.heap.size wa W → Calls Tryz.prog 49 #[.slice al l.length cl] W fun e w' => (∃ v', e = .returned v' ∧ NewL tRec 49 W.heap.size w' v' l) ∧ Below W.heap.size W w' from fun W hW =>
    (records_new l _ W (HL.out.step (bl_trans HW.out hW)) (by omega)).mono (fun e w' h => by obtain ⟨v', h1, h2, h3⟩ := h; exact ⟨⟨v', h1, h2⟩, h3⟩))
  clear n0 n1 n2 c0 c1 c2 c3 c4 c5 cf
  obtain ⟨x0, x1⟩ := HKE.out wa (Below.refl _ _)
  go_cut [9] (fun v wx => ∃ b9 ah ch, v = .pointer (some ⟨b9, 0, none⟩) ∧ FBox wa ⟨fr, p.nm, p.out, l⟩ b9 (.slice ah l.length ch) wx)
  case first =>
    refine wp_region_E 9 (fun w' => w'.cell? ⟨w.heap.size, 0, none⟩ = some (.string p.nm) ∧ w'.cell? ⟨w.heap.size, 1, none⟩ = some (.int .i64 p.out)) (by kernel_rfl) (HKE.out _ (by (repeat (first | (with_reducible exact Below.refl _ _) | (with_reducible apply bl_drewN) | (with_reducible apply bl_alloc) | (with_reducible apply Below.drew))); done)) (fun hHeld => ?_)
    refine wpE_take (i := 0) (v := ?_) rfl (by kernel_rfl) (fun _ _ _ h => h) (Or.inl ⟨by kernel_rfl, ?_⟩) (by assumption) ?_
    rotate_left
    focus (intro w9 hS9; (try dsimp only at hS9); go_simp; (try with_reducible rfl))
    (try simp only [Act.put])
    (try simp only [List.setIfInBounds_toArray])
    (repeat (first | simp only [List.set_cons_succ] | simp only [List.set_cons_zero]))
    refine wpE_take (i := 1) (v := ?_) rfl (by kernel_rfl) (fun _ _ _ h => h) (Or.inl ⟨by kernel_rfl, ?_⟩) (by assumption) ?_
    rotate_left
    focus (intro w9 hS9; (try dsimp only at hS9); go_simp; (try with_reducible rfl))
    (try simp only [Act.put])
    (try simp only [List.setIfInBounds_toArray])
    (repeat (first | simp only [List.set_cons_succ] | simp only [List.set_cons_zero]))
    refine wpE_take (i := 2) (v := ?_) rfl (by kernel_rfl) (fun _ _ _ h => h) (Or.inl ⟨by kernel_rfl, ?_⟩) (by assumption) ?_
    rotate_left
    focus (intro w9 hS9; (try dsimp only at hS9); go_simp; (try with_reducible rfl))
    (try simp only [Act.put])
    (try simp only [List.setIfInBounds_toArray])
    (repeat (first | simp only [List.set_cons_succ] | simp only [List.set_cons_zero]))
    refine wpE_take (i := 3) (v := ?_) rfl (by kernel_rfl) (fun _ _ _ h => h) (Or.inl ⟨by kernel_rfl, ?_⟩) (by assumption) ?_
    rotate_left
    focus (intro w9 hS9; (try dsimp only at hS9); go_simp; (try with_reducible rfl))
    (try simp only [Act.put])
    (try simp only [List.setIfInBounds_toArray])
    (repeat (first | simp only [List.set_cons_succ] | simp only [List.set_cons_zero]))
    refine wpE_take (i := 4) (v := ?_) rfl (by kernel_rfl) (fun _ _ _ h => h) (Or.inl ⟨by kernel_rfl, ?_⟩) (by assumption) ?_
    rotate_left
    focus (intro w9 hS9; (try dsimp only at hS9); go_simp; (try with_reducible rfl))
    (try simp only [Act.put])
    (try simp only [List.setIfInBounds_toArray])
    (repeat (first | simp only [List.set_cons_succ] | simp only [List.set_cons_zero]))
    refine wpE_take (i := 5) (v := ?_) rfl (by kernel_rfl) (fun _ _ _ h => h) (Or.inl ⟨by kernel_rfl, ?_⟩) (by assumption) ?_
    rotate_left
    focus (intro w9 hS9; (try dsimp only at hS9); go_simp; (try with_reducible rfl))
    (try simp only [Act.put])
    (try simp only [List.setIfInBounds_toArray])
    (repeat (first | simp only [List.set_cons_succ] | simp only [List.set_cons_zero]))
    refine wpE_ready (rs := [6, 8]) (by kernel_rfl) (by kernel_rfl) ?_
    refine AllReadyE.cons rfl (fun K hK => ?_) (AllReadyE.cons rfl (fun K hK => ?_) AllReadyE.nil)
    · go_simp
      go_wp2_with (
        go_at_call 49
        refine (HREC.out _ (by (repeat (first | (with_reducible exact Below.refl _ _) | (with_reducible apply bl_drewN) | (with_reducible apply bl_alloc) | (with_reducible apply Below.drew))); done)).mono ?_
        rintro e w4 ⟨⟨v', rfl, hn4⟩, hb4⟩
        obtain ⟨ah, ch, rfl, -⟩ := hn4.form
        have HN4 := Lib.hid hn4
        have HB4 := Lib.hid hb4
        clear hn4 hb4)
      clear hHeld
      refine hK.out _ _ (HKE.out _ (by ((repeat (first | (with_reducible exact Below.refl _ _) | (with_reducible exact bl_trans (by (repeat (first | (with_reducible exact Below.refl _ _) | (with_reducible apply bl_alloc) | (with_reducible apply Below.drew))); done) HB4.out) | (with_reducible apply bl_drewN) | (with_reducible apply bl_alloc) | (with_reducible apply Below.drew))); done))) (fun hHeld => ?_)
      clear hK K
      refine wpE_take (i := 7) (v := ?_) rfl (by kernel_rfl) (fun _ _ _ h => h) (Or.inl ⟨by kernel_rfl, ?_⟩) (by assumption) ?_
      rotate_left
      focus (intro w9 hS9; (try dsimp only at hS9); go_simp; (try with_reducible rfl))
      (try simp only [Act.put])
      (try simp only [List.setIfInBounds_toArray])
      (repeat (first | simp only [List.set_cons_succ] | simp only [List.set_cons_zero]))
      refine wpE_ready (rs := [8]) (by kernel_rfl) (by kernel_rfl) ?_
      refine AllReadyE.cons rfl (fun K hK => ?_) AllReadyE.nil
      go_simp
      clear hHeld
      refine hK.out _ _ (HKE.out _ (by ((repeat (first | (with_reducible exact Below.refl _ _) | (with_reducible exact bl_trans (by (repeat (first | (with_reducible exact Below.refl _ _) | (with_reducible apply bl_alloc) | (with_reducible apply Below.drew))); done) HB4.out) | (with_reducible apply bl_drewN) | (with_reducible apply bl_alloc) | (with_reducible apply Below.drew))); done))) (fun hHeld => ?_)
      clear hK K
      clear hHeld
      refine wpE_out (by kernel_rfl) ?_
      refine wpAny_ready (rs := [9]) (by kernel_rfl) (by simp) ?_
      refine AllReady.cons rfl (fun K hK => ?_) AllReady.nil
      rw [if_pos (show _ = true by kernel_rfl)]
      go_simp
      refine hK _ _ ?_
      clear hK K
      refine wpAny_done (by kernel_rfl) ?_ _
      go_wp2_with (fail)
      go_meet
      exact ⟨_, _, _, rfl, FBox.mk_alloc (f := ⟨fr, p.nm, p.out, l⟩) (Below.trans (b := wa.drew) (Below.drew (Below.refl _ _)) HB4.out) HN4.out⟩
    · go_simp
      clear hHeld
      refine hK.out _ _ (HKE.out _ (by (repeat (first | (with_reducible exact Below.refl _ _) | (with_reducible apply bl_drewN) | (with_reducible apply bl_alloc) | (with_reducible apply Below.drew))); done)) (fun hHeld => ?_)
      clear hK K
      refine wpE_ready (rs := [6]) (by kernel_rfl) (by kernel_rfl) ?_
      refine AllReadyE.cons rfl (fun K hK => ?_) AllReadyE.nil
      go_simp
      go_wp2_with (
        go_at_call 49
        refine (HREC.out _ (by (repeat (first | (with_reducible exact Below.refl _ _) | (with_reducible apply bl_drewN) | (with_reducible apply bl_alloc) | (with_reducible apply Below.drew))); done)).mono ?_
        rintro e w4 ⟨⟨v', rfl, hn4⟩, hb4⟩
        obtain ⟨ah, ch, rfl, -⟩ := hn4.form
        have HN4 := Lib.hid hn4
        have HB4 := Lib.hid hb4
        clear hn4 hb4)
      clear hHeld
      refine hK.out _ _ (HKE.out _ (by ((repeat (first | (with_reducible exact Below.refl _ _) | (with_reducible exact bl_trans (by (repeat (first | (with_reducible exact Below.refl _ _) | (with_reducible apply bl_alloc) | (with_reducible apply Below.drew))); done) HB4.out) | (with_reducible apply bl_drewN) | (with_reducible apply bl_alloc) | (with_reducible apply Below.drew))); done))) (fun hHeld => ?_)
      clear hK K
      refine wpE_take (i := 7) (v := ?_) rfl (by kernel_rfl) (fun _ _ _ h => h) (Or.inl ⟨by kernel_rfl, ?_⟩) (by assumption) ?_
      rotate_left
      focus (intro w9 hS9; (try dsimp only at hS9); go_simp; (try with_reducible rfl))
      (try simp only [Act.put])
      (try simp only [List.setIfInBounds_toArray])
      (repeat (first | simp only [List.set_cons_succ] | simp only [List.set_cons_zero]))
      have yy := Go.Tw.Below.at_old HB4.out (alloc1_0 wa.drew (.cells #[.string ⟨#[]⟩, .string ⟨#[]⟩, .int .i64 0, .slice none 0 0] 45))
      rw [show wa.drew.heap.size = w.heap.size + 1 + 1 + 1 from hsz] at yy
      have HYY := Lib.hid yy
      obtain ⟨y0, y1, y2, y3, yf⟩ := blk4 yy
      clear yy
      clear hHeld
      refine wpE_out (by kernel_rfl) ?_
      refine wpAny_ready (rs := [9]) (by kernel_rfl) (by simp) ?_
      refine AllReady.cons rfl (fun K hK => ?_) AllReady.nil
      rw [if_pos (show _ = true by kernel_rfl)]
      go_simp
      refine hK _ _ ?_
      clear hK K
      refine wpAny_done (by kernel_rfl) ?_ _
      go_wp2_with (fail)
      go_meet
      exact ⟨_, _, _, rfl, FBox.mk_set (f := ⟨fr, p.nm, p.out, l⟩) ((show Below wa.heap.size wa _ from bl_alloc (Below.drew (Below.refl _ _)) _).trans (HB4.out.mono (by simp))) (by omega) HYY.out (NewL.mono HN4.out (by simp; omega))⟩
  case rest =>
    clear x0 x1 HREC HKE
    obtain ⟨b9, ah, ch, rfl, hF⟩ := hcut
    have HFB := Lib.hid hF
    have h93 : w.heap.size + 3 ≤ b9 := by have := hF.lo; omega
    have HW1 := Lib.hid (bl_trans HW.out hF.bel)
    have M0 := Lib.hid (Go.Tw.Below.at_old hF.bel HN0.out)
    have M1 := Lib.hid (Go.Tw.Below.at_old hF.bel HN1.out)
    have M2 := Lib.hid (Go.Tw.Below.at_old hF.bel HN2.out)
    have hwx : w.heap.size + 3 ≤ wc.heap.size := by have := hF.bel.size; omega
    have h9c : b9 < wc.heap.size := lt_of_heap hF.box
    have HRS := Lib.hid (show SlIs tRec (fun k => w.heap.size + 3 ≤ k ∧ k < wc.heap.size ∧ k ≠ b9) wc (.slice ah l.length ch) l from hF.rs.keep (fun k hk => ⟨by omega, hk.2⟩) (SameOn.refl _ _))
    clear hF HN0 HN1 HN2 HW hlt0
    obtain ⟨g0, g1, g2, g3, gf⟩ := blk4 HFB.out.box
    go_wp2_with (fail)
    refine (checkR_any ⟨fr, p.nm, p.out, l⟩ _ _ (HRS.out.keep (fun k hk => hk.2.1) (SameOn.refl _ _))).mono ?_
    rintro e w2 ⟨rfl, hb2⟩
    have m0 := Go.Tw.Below.at_old hb2 M0.out
    have m1 := Go.Tw.Below.at_old hb2 M1.out
    have m2 := Go.Tw.Below.at_old hb2 M2.out
    have m9 := Go.Tw.Below.at_old hb2 HFB.out.box
    have HW2 := Lib.hid (bl_trans HW1.out hb2)
    have hz2 : wc.heap.size ≤ w2.heap.size := hb2.size
    have HRS2 := Lib.hid (show SlIs tRec (fun k => w.heap.size + 3 ≤ k ∧ k < w2.heap.size ∧ k ≠ b9) w2 (.slice ah l.length ch) l from HRS.out.keep (fun k hk => ⟨hk.1, by omega, hk.2.2⟩) (fun k hk => hb2.block k hk.2.1))
    clear hb2 M0 M1 M2 HW1 HFB HRS g0 g1 g2 g3 gf
    obtain ⟨c0, c1, c2, c3, c4, c5, cf⟩ := blk6' m0
    obtain ⟨d0, d1, d2, d3, d4, d5, df⟩ := blk6' m1
    obtain ⟨f0, f1, f2, f3, ff⟩ := blk4 m2
    obtain ⟨g0, g1, g2, g3, gf⟩ := blk4 m9
    have HN1 := Lib.hid m1
    have HN2 := Lib.hid m2
    have HN9 := Lib.hid m9
    clear m0 m1 m2 m9
    by_cases q0 : checkC ⟨fr, p.nm, p.out, l⟩ = 0
    case neg =>
      have HC := Lib.hid (send_c q0)
      have hq : (checkC ⟨fr, p.nm, p.out, l⟩ != 0) = true := by simpa using q0
      obtain ⟨x, hx⟩ : ∃ x, checkC ⟨fr, p.nm, p.out, l⟩ = x := ⟨_, rfl⟩
      rw [hx] at HC hq ⊢
      clear q0 hx
      go_wp2_with (fail)
      refine bodyPost_ret (v := .tuple #[.agg #[.string p.nm, .int .i64 p.out, .int .i64 p.inn, .slice aw p.wt.length cw, .slice ao p.ours.length co, .slice at' p.thr.length ct], .agg #[.string ByteArray.empty, .string ByteArray.empty, .int .i64 0, .slice none 0 0], .int .i64 x]) (by simp [results, Tryz.results25, go_sem, d0, d1, d2, d3, d4, d5, f0, f1, f2, f3]; first | done | rfl | (constructor <;> rfl)) rfl ⟨ses_mk (f := zeroF) HC.out (parOk_stepS HPS.out HSS.out ?_) filOk_zero, ?_⟩
      · (repeat (first | (with_reducible exact HW2.out) | (with_reducible apply bl_drewN) | (with_reducible apply bl_alloc) | ((with_reducible refine bl_set ?_ _ ?_); rotate_left; focus (first | exact Nat.le_refl _ | (simp; done) | (simp; omega)))))
      · (repeat (first | (with_reducible exact HW2.out) | (with_reducible apply bl_drewN) | (with_reducible apply bl_alloc) | ((with_reducible refine bl_set ?_ _ ?_); rotate_left; focus (first | exact Nat.le_refl _ | (simp; done) | (simp; omega)))))
    have hcs := check_sq q0
    simp only at hcs
    rw [q0]
    have hq6 : IntKind.i64.wrap ((p.ours.length : Int) + (l.length : Int)) = (p.ours.length : Int) + (l.length : Int) := wrap_in (by omega) (by omega)
    by_cases q1 : 1024 ≤ p.wt.length
    · have HC := Lib.hid (send_l q0 (.inl q1))
      have hq : (1024 : Int) ≤ (p.wt.length : Int) := by omega
      clear q0 q1
      go_wp2_with (fail)
      refine bodyPost_ret (v := .tuple #[.agg #[.string p.nm, .int .i64 p.out, .int .i64 p.inn, .slice aw p.wt.length cw, .slice ao p.ours.length co, .slice at' p.thr.length ct], .agg #[.string ByteArray.empty, .string ByteArray.empty, .int .i64 0, .slice none 0 0], .int .i64 3]) (by simp [results, Tryz.results25, go_sem, d0, d1, d2, d3, d4, d5, f0, f1, f2, f3]; first | done | rfl | (constructor <;> rfl)) rfl ⟨ses_mk (f := zeroF) HC.out (parOk_stepS HPS.out HSS.out ?_) filOk_zero, ?_⟩
      · (repeat (first | (with_reducible exact HW2.out) | (with_reducible apply bl_drewN) | (with_reducible apply bl_alloc) | ((with_reducible refine bl_set ?_ _ ?_); rotate_left; focus (first | exact Nat.le_refl _ | (simp; done) | (simp; omega)))))
      · (repeat (first | (with_reducible exact HW2.out) | (with_reducible apply bl_drewN) | (with_reducible apply bl_alloc) | ((with_reducible refine bl_set ?_ _ ?_); rotate_left; focus (first | exact Nat.le_refl _ | (simp; done) | (simp; omega)))))
    have hq1 : decide ((1024 : Int) ≤ (p.wt.length : Int)) = false := by simp; omega
    by_cases q2 : 1024 < p.ours.length + l.length
    · have HC := Lib.hid (send_l q0 (.inr q2))
      have hq : (1024 : Int) < (p.ours.length : Int) + (l.length : Int) := by omega
      clear q0 q1 q2
      go_wp2_with (fail)
      refine bodyPost_ret (v := .tuple #[.agg #[.string p.nm, .int .i64 p.out, .int .i64 p.inn, .slice aw p.wt.length cw, .slice ao p.ours.length co, .slice at' p.thr.length ct], .agg #[.string ByteArray.empty, .string ByteArray.empty, .int .i64 0, .slice none 0 0], .int .i64 3]) (by simp [results, Tryz.results25, go_sem, d0, d1, d2, d3, d4, d5, f0, f1, f2, f3]; first | done | rfl | (constructor <;> rfl)) rfl ⟨ses_mk (f := zeroF) HC.out (parOk_stepS HPS.out HSS.out ?_) filOk_zero, ?_⟩
      · (repeat (first | (with_reducible exact HW2.out) | (with_reducible apply bl_drewN) | (with_reducible apply bl_alloc) | ((with_reducible refine bl_set ?_ _ ?_); rotate_left; focus (first | exact Nat.le_refl _ | (simp; done) | (simp; omega)))))
      · (repeat (first | (with_reducible exact HW2.out) | (with_reducible apply bl_drewN) | (with_reducible apply bl_alloc) | ((with_reducible refine bl_set ?_ _ ?_); rotate_left; focus (first | exact Nat.le_refl _ | (simp; done) | (simp; omega)))))
    have hq2 : decide ((1024 : Int) < (p.ours.length : Int) + (l.length : Int)) = false := by simp; omega
    have HC := Lib.hid (send_y q0 (by omega))
    have hq7 : IntKind.i64.wrap (p.out + 1) = p.out + 1 := wrap_in (by omega) (by omega)
    clear q0
    go_wp2_with (fail)
    refine (copiedP_any p _ _ _ _ (HP.out.step HW2.out) HS.out).mono ?_
    rintro e w3 ⟨vw', vo', vt', rfl, hown, hb3⟩
    obtain ⟨⟨aw', cw', rfl, hw1', hw2'⟩, ⟨ao', co', rfl, ho1', ho2'⟩, ⟨at2, ct2, rfl, ht1', ht2'⟩⟩ := hown.form
    unfold maxLen at hw2' ho2' ht2'
    have HW3 := Lib.hid (bl_trans HW2.out hb3)
    have hz3 : w2.heap.size ≤ w3.heap.size := hb3.size
    have m1 := Go.Tw.Below.at_old hb3 HN1.out
    have m2 := Go.Tw.Below.at_old hb3 HN2.out
    have m9 := Go.Tw.Below.at_old hb3 HN9.out
    have HRS3 := Lib.hid (show SlIs tRec (fun k => w.heap.size + 3 ≤ k ∧ k < w2.heap.size ∧ k ≠ b9) w3 (.slice ah l.length ch) l from HRS2.out.keep (fun k hk => hk) (fun k hk => hb3.block k hk.2.1))
    have c1' := (hb3.cell (p := ⟨w.heap.size, 1, none⟩) (by show w.heap.size < w2.heap.size; omega)).trans c1
    have c1'' := ((bl_alloc (Below.refl w3.heap.size w3) (.cells #[.string p.nm, .int .i64 p.out, .int .i64 p.inn, .slice aw' p.wt.length cw', .slice ao' p.ours.length co', .slice at2 p.thr.length ct2] 29)).cell (p := ⟨w.heap.size, 1, none⟩) (by show w.heap.size < w3.heap.size; omega)).trans c1'
    have ne1 : ¬ w.heap.size = w3.heap.size := by omega
    clear c0 c1 c2 c3 c4 c5 cf d0 d1 d2 d3 d4 d5 df f0 f1 f2 f3 ff g0 g1 g2 g3 gf hb3 hw1 hw2 ho1 ho2 ht1 ht2 HN1 HN2 HN9 HRS2
    go_upto_region 9 with (fail)
    obtain ⟨wb, hwb⟩ : ∃ wb, w3.alloc (.cells #[.string p.nm, .int .i64 (p.out + 1), .int .i64 p.inn, .slice aw' p.wt.length cw', .slice ao' p.ours.length co', .slice at2 p.thr.length ct2] 29) = wb := ⟨_, rfl⟩
    have hb0 := alloc1_0 w3 (.cells #[.string p.nm, .int .i64 (p.out + 1), .int .i64 p.inn, .slice aw' p.wt.length cw', .slice ao' p.ours.length co', .slice at2 p.thr.length ct2] 29)
    rw [hwb] at hb0 ⊢
    have hne : ∀ k, k < w3.heap.size → wb.heap[k]? = w3.heap[k]? := fun k hk => by rw [← hwb]; exact Below.heap_alloc _ _ _ hk
    have hszb : wb.heap.size = w3.heap.size + 1 := by rw [← hwb]; simp
    have HBX := Lib.hid hb0
    have HWB := Lib.hid (show Below w.heap.size w wb by rw [← hwb]; exact bl_alloc HW3.out _)
    have HRB := Lib.hid ((hne (w.heap.size + 1) (by omega)).trans m1)
    have HRF := Lib.hid ((hne (w.heap.size + 1 + 1) (by omega)).trans m2)
    have HFB := Lib.hid ((hne b9 (by omega)).trans m9)
    have HRSB := Lib.hid (show SlIs tRec (fun k => w.heap.size + 3 ≤ k ∧ k < w2.heap.size ∧ k ≠ b9) wb (.slice ah l.length ch) l from HRS3.out.keep (fun k hk => hk) (fun k hk => hne k (by omega)))
    obtain ⟨F1, F2, F3, h1, h2, h3, nd1, nd2, nd3, b1, b2, b3, d12, d13, d23⟩ := hown
    have l1 := h1.lt
    have l2 := h2.lt
    have l3 := h3.lt
    have k1 := h1.keep (w' := wb) (fun b hb => hne b (l1 b hb))
    have k2 := h2.keep (w' := wb) (fun b hb => hne b (l2 b hb))
    have k3 := h3.keep (w' := wb) (fun b hb => hne b (l3 b hb))
    have HO1 := Lib.hid (Go.Tw.Exc.OwnL.toS k1 nd1 b1)
    have HLT := Lib.hid k1.lt
    have HBK := Lib.hid k1.blk
    have HO2 := Lib.hid k2
    have HO3 := Lib.hid k3
    have HBB := Lib.hid (show (∀ b ∈ F1, w2.heap.size ≤ b ∧ b ≠ w3.heap.size) ∧ (∀ b ∈ F2, w2.heap.size ≤ b ∧ b ≠ w3.heap.size) ∧ (∀ b ∈ F3, w2.heap.size ≤ b ∧ b ≠ w3.heap.size) ∧ (∀ b ∈ F1, b ∉ F2) ∧ (∀ b ∈ F1, b ∉ F3) ∧ ∀ b ∈ F2, b ∉ F3 from
      ⟨fun b hb => ⟨b1 b hb, by have := l1 b hb; omega⟩, fun b hb => ⟨b2 b hb, by have := l2 b hb; omega⟩, fun b hb => ⟨b3 b hb, by have := l3 b hb; omega⟩, d12, d13, d23⟩)
    have HND := Lib.hid nd2
    have HL2 := Lib.hid k2.lt
    have HSZ := Lib.hid hszb
    have HFI := Lib.hid (show Calls Tryz.prog 51 #[.slice (some ⟨wb.heap.size, 0, none⟩) 1 1] (wb.drew.alloc (.cells #[.string fr, .string p.nm, .int .i64 p.out, .slice ah l.length ch] 45)) fun e w' => (∃ v', e = .returned v' ∧ NewL tFil 45 (wb.heap.size + 1) w' v' [⟨fr, p.nm, p.out, l⟩]) ∧ Below wb.heap.size wb w' from by
      have hsg := SlIs.single (T := tFil) (w := wb.drew) (e := 45) (cs := #[.string fr, .string p.nm, .int .i64 p.out, .slice ah l.length ch]) (x := ⟨fr, p.nm, p.out, l⟩) (S := fun k => w.heap.size + 3 ≤ k ∧ k < w2.heap.size ∧ k ≠ b9) (tFil_mk (r := ⟨fr, p.nm, p.out, l⟩) (v := .slice ah l.length ch) ⟨HF0.out.1, HF0.out.2.1, HF0.out.2.2, (HRSB.out.keep (w' := wb.drew) (fun k hk => hk) (fun k _ => rfl))⟩) (fun k hk => by show k < wb.heap.size; omega)
      refine (filesR_any [⟨fr, p.nm, p.out, l⟩] _ _ (hsg.keep (fun k hk => ?_) (SameOn.refl _ _)) (by simp) (fun f hf => by rw [List.mem_singleton.1 hf]; show l.length ≤ 1000000; omega)).mono ?_
      · show k < _
        rw [World.size_alloc]
        show k < wb.heap.size + 1
        rcases hk with q | q
        · omega
        · have : k = wb.heap.size := q
          omega
      · rintro e w' ⟨v', rfl, q1, q2⟩
        refine ⟨⟨v', rfl, q1.mono (by simp)⟩, ?_⟩
        exact (show Below wb.heap.size wb _ from bl_alloc (Below.drew (Below.refl _ _)) _).trans (q2.mono (by simp)))
    have d0 := (blk6' HBX.out).2.2.2.1
    obtain ⟨g0, g1, g2, g3, gf⟩ := blk4 HFB.out
    have hb11 : w3.heap.size < wb.heap.size := by omega
    have hb9 : b9 < wb.heap.size := by omega
    have HKE := Lib.hid (show ∀ W, Below wb.heap.size wb W → W.cell? ⟨w3.heap.size, 3, none⟩ = some (.slice aw' p.wt.length cw') ∧ W.cell? ⟨b9, 0, none⟩ = some (.string fr) ∧ W.cell? ⟨b9, 1, none⟩ = some (.string p.nm) ∧ W.cell? ⟨b9, 2, none⟩ = some (.int .i64 p.out) ∧ W.cell? ⟨b9, 3, none⟩ = some (.slice ah l.length ch) from fun W hW =>
      ⟨(hW.cell (p := ⟨w3.heap.size, 3, none⟩) hb11).trans d0, (hW.cell (p := ⟨b9, 0, none⟩) hb9).trans g0, (hW.cell (p := ⟨b9, 1, none⟩) hb9).trans g1, (hW.cell (p := ⟨b9, 2, none⟩) hb9).trans g2, (hW.cell (p := ⟨b9, 3, none⟩) hb9).trans g3⟩)
    clear hwb hne m1 m2 m9 hb0 c1' c1'' ne1 HW3 HRS3 HW2 h1 h2 h3 nd1 nd2 nd3 b1 b2 b3 d12 d13 d23 l1 l2 l3 k1 k2 k3 hszb hb11 hb9 d0 g0 g1 g2 g3 gf
    refine wp_region_E 5 (fun w' => w'.cell? ⟨w3.heap.size, 3, none⟩ = some (.slice aw' p.wt.length cw') ∧ w'.cell? ⟨b9, 0, none⟩ = some (.string fr) ∧ w'.cell? ⟨b9, 1, none⟩ = some (.string p.nm) ∧ w'.cell? ⟨b9, 2, none⟩ = some (.int .i64 p.out) ∧ w'.cell? ⟨b9, 3, none⟩ = some (.slice ah l.length ch)) (by kernel_rfl) (HKE.out _ (by (repeat (first | (with_reducible exact Below.refl _ _) | (with_reducible apply bl_drewN) | (with_reducible apply bl_alloc) | (with_reducible apply Below.drew))); done)) (fun hHeld => ?_)
    refine wpE_take (i := 0) (v := ?_) rfl (by kernel_rfl) (fun _ _ _ h => h) (Or.inl ⟨by kernel_rfl, ?_⟩) (by assumption) ?_
    rotate_left
    focus (intro w9 hS9; (try dsimp only at hS9); go_simp; (try with_reducible rfl))
    (try simp only [Act.put])
    (try simp only [List.setIfInBounds_toArray])
    (repeat (first | simp only [List.set_cons_succ] | simp only [List.set_cons_zero]))
    refine wpE_take (i := 1) (v := ?_) rfl (by kernel_rfl) (fun _ _ _ h => h) (Or.inl ⟨by kernel_rfl, ?_⟩) (by assumption) ?_
    rotate_left
    focus (intro w9 hS9; (try dsimp only at hS9); go_simp; (try with_reducible rfl))
    (try simp only [Act.put])
    (try simp only [List.setIfInBounds_toArray])
    (repeat (first | simp only [List.set_cons_succ] | simp only [List.set_cons_zero]))
    refine wpE_take (i := 2) (v := ?_) rfl (by kernel_rfl) (fun _ _ _ h => h) (Or.inl ⟨by kernel_rfl, ?_⟩) (by assumption) ?_
    rotate_left
    focus (intro w9 hS9; (try dsimp only at hS9); go_simp; (try with_reducible rfl))
    (try simp only [Act.put])
    (try simp only [List.setIfInBounds_toArray])
    (repeat (first | simp only [List.set_cons_succ] | simp only [List.set_cons_zero]))
    refine wpE_ready (rs := [3]) (by kernel_rfl) (by kernel_rfl) ?_
    refine AllReadyE.cons rfl (fun K hK => ?_) AllReadyE.nil
    go_simp
    clear hHeld
    refine hK.out _ _ (HKE.out _ (by (repeat (first | (with_reducible exact Below.refl _ _) | (with_reducible apply bl_drewN) | (with_reducible apply bl_alloc) | (with_reducible apply Below.drew))); done)) (fun hHeld => ?_)
    clear hK K
    refine wpE_ready (rs := [4]) (by kernel_rfl) (by kernel_rfl) ?_
    refine AllReadyE.cons rfl (fun K hK => ?_) AllReadyE.nil
    go_simp
    go_wp2_with (
      go_at_call 51
      refine HFI.out.mono ?_
      rintro e w6 ⟨⟨v6, rfl, hn6⟩, hb6⟩
      have HN6 := Lib.hid hn6
      have HB6 := Lib.hid hb6
      clear hn6 hb6)
    clear hHeld
    refine hK.out _ _ (HKE.out _ HB6.out) (fun hHeld => ?_)
    clear hK K
    clear hHeld
    refine wpE_out (by kernel_rfl) ?_
    have hz6 : wb.heap.size ≤ w6.heap.size := HB6.out.size
    refine wpAny_ready (rs := [5]) (by kernel_rfl) (by simp) ?_
    refine AllReady.cons rfl (fun K hK => ?_) AllReady.nil
    refine step_append_oneS (.tmp 49) (.tmp 52) rfl 26 rfl slFil rfl (HO1.out.below (fun k hk => HLT.out k hk.1) HB6.out) (fun k hk => ⟨by have := HLT.out k hk.1; omega, hk.2⟩) rfl
      HN6.out.sl (fun k hk => ⟨hk.2, fun e => by have := HLT.out k (HBK.out k e.symm); omega⟩) (by omega) (by unfold maxLen; omega) (by have := HSZ.out; omega) ?_
    intro v3 w7 ho7 hg7 hor7
    have HSL := Lib.hid ho7.sl
    obtain ⟨a3, c3', q3, -⟩ := ho7.form
    rw [List.length_append] at q3
    change v3 = .slice a3 (p.wt.length + 1) c3' at q3
    subst q3
    have HK7 := Lib.hid (show ∀ k, k < wb.heap.size → k ∉ F1 → w7.heap[k]? = wb.heap[k]? from fun k q1 q2 => (hg7.block k (by omega) (fun e => q2 (HBK.out k e.symm))).trans (HB6.out.block k q1))
    have hz7 : w6.heap.size ≤ w7.heap.size := hg7.size
    have HW7 := Lib.hid (show Below w.heap.size w w7 from HWB.out.trans ((HB6.out.mono (by have := HSZ.out; omega)).trans (Below.of_grown hg7 (by have := HSZ.out; omega) (fun k e => by have := (HBB.out.1 k (HBK.out k e)).1; omega))))
    have HWT := Lib.hid (show SlIs tFil (fun k => w2.heap.size ≤ k ∧ k < w7.heap.size ∧ k ≠ w3.heap.size ∧ k ∉ F2) w7 (.slice a3 (p.wt.length + 1) c3') (p.wt ++ [⟨fr, p.nm, p.out, l⟩]) from HSL.out.keep (fun k hk => by
      have hs := HSZ.out
      rcases hk with (q | q) | q
      · have q2 := HBB.out.1 k q.1
        exact ⟨q2.1, by have := HLT.out k q.1; omega, q2.2, HBB.out.2.2.2.1 k q.1⟩
      · exact ⟨by omega, by omega, by omega, fun e => by have := HL2.out k e; omega⟩
      · have q' := ho7.own_lt k q
        rcases hor7 with e | e
        · have e2 := HBK.out k (e.symm.trans q)
          exact ⟨q'.1, q'.2, (HBB.out.1 k e2).2, HBB.out.2.2.2.1 k e2⟩
        · rw [e] at q
          have e3 : w6.heap.size = k := by injection q
          exact ⟨by omega, q'.2, by omega, fun e => by have := HL2.out k e; omega⟩) (SameOn.refl _ _))
    obtain ⟨z0, z1, z2, z3, z4, z5, zf⟩ := blk6' ((HK7.out _ (by have := HSZ.out; omega) (fun e => (HBB.out.1 _ e).2 rfl)).trans HBX.out)
    clear ho7 hg7 hor7
    refine hK _ _ ?_
    clear hK K
    refine wpAny_ready (rs := [6]) (by kernel_rfl) (by simp) ?_
    refine AllReady.cons rfl (fun K hK => ?_) AllReady.nil
    rw [if_pos (show _ = true by kernel_rfl)]
    go_simp
    refine hK _ _ ?_
    clear hK K
    refine wpAny_ready (rs := [7]) (by kernel_rfl) (by simp) ?_
    refine AllReady.cons rfl (fun K hK => ?_) AllReady.nil
    rw [if_pos (show _ = true by kernel_rfl)]
    go_simp
    refine hK _ _ ?_
    clear hK K
    refine wpAny_done (by kernel_rfl) ?_ _
    have hX := SXR.mk9 (f := ⟨fr, p.nm, p.out, l⟩) (B := w2.heap.size) (by omega) h93 hz3 HBX.out HRB.out HRF.out HFB.out HRSB.out HO2.out HO3.out HBB.out.1 HBB.out.2.1 HBB.out.2.2.1 HBB.out.2.2.2.1 HBB.out.2.2.2.2.1 HK7.out HW7.out HWT.out
    have HX := Lib.hid hX
    obtain ⟨wx, hwx2⟩ : ∃ wx, w7.setCell ⟨w3.heap.size, 3, none⟩ (.slice a3 (p.wt.length + 1) c3') = wx := ⟨_, rfl⟩
    rw [hwx2] at HX ⊢
    clear hwx2 hX z0 z1 z2 z3 z4 z5 zf HKE HFI HN6 HB6 HSL HWT HK7 HW7 HBX HRB HRF HFB HRSB HO1 HO2 HO3 HLT HBK HWB HSZ hz6 hz7
    obtain ⟨c0, c1, c2, c3, c4, c5, cf⟩ := blk6' HX.out.box
    have hzX : w3.heap.size < wx.heap.size := lt_of_heap HX.out.box
    have HOW := Lib.hid (HX.out.ours.to HND.out (fun b hb => (HBB.out.2.1 b hb).1))
    have HBK2 := Lib.hid HX.out.ours.blk
    have HFR := Lib.hid (HL.out.keep (fun _ h => h) (.of_below HX.out.bel))
    go_upto_region 11 with (
      at_builtin
      refine wpList_append_sl (.tmp 56) (.tmp 57) rfl 27 rfl slRec rfl HOW.out rfl HFR.out (fun k (hk : k < w.heap.size) => ⟨by omega, fun e => by have := (HBB.out.2.1 k (HBK2.out k e.symm)).1; omega⟩) (by omega) (by unfold maxLen; omega) (by omega) ?_
      intro v7 w8 ho7 hg7 hor7
      obtain ⟨a7, c7, e7, -⟩ := id ho7.form
      rw [List.length_append] at e7
      subst e7
      have HO7 := Lib.hid ho7
      have HG7 := Lib.hid hg7
      have HOR7 := Lib.hid hor7
      have HK7 := Lib.hid (show ∀ k, k < wx.heap.size → k ∉ F2 → w8.heap[k]? = wx.heap[k]? from fun k q1 q2 => hg7.block k q1 (fun e => q2 (HBK2.out k e.symm)))
      obtain ⟨z0, z1, z2, z3, z4, z5, zf⟩ := blk6' ((HK7.out _ hzX (fun e => (HBB.out.2.1 _ e).2 rfl)).trans HX.out.box)
      clear ho7 hg7 hor7)
    obtain ⟨wc2, hwc⟩ : ∃ wc2, w8.setCell ⟨w3.heap.size, 4, none⟩ (.slice a7 (p.ours.length + l.length) c7) = wc2 := ⟨_, rfl⟩
    have hy := SXR.push HX.out (by omega) h93 hz3 HBB.out.2.1 HBB.out.2.2.1 HBB.out.2.2.2.2.2 HG7.out HO7.out HOR7.out HP.out (by unfold i64ok; omega)
    rw [hwc] at hy ⊢
    have HY := Lib.hid hy
    clear HX HO7 HG7 HOR7 HK7 HOW HBK2 HFR hwc hy z0 z1 z2 z3 z4 z5 zf c0 c1 c2 c3 c4 c5 cf hzX
    obtain ⟨c0, c1, c2, c3, c4, c5, cf⟩ := blk6' HY.out.box
    obtain ⟨g0, g1, g2, g3, gf⟩ := blk4 HY.out.fb
    obtain ⟨d0, d1, d2, d3, d4, d5, df⟩ := blk6' HY.out.rb
    obtain ⟨f0, f1, f2, f3, ff⟩ := blk4 HY.out.rf
    have hzY : w3.heap.size < wc2.heap.size := lt_of_heap HY.out.box
    have nf1 : b9 ≠ w.heap.size + 1 := by omega
    have nf2 : b9 ≠ w.heap.size + 1 + 1 := by omega
    have nb1 : w3.heap.size ≠ w.heap.size + 1 := by omega
    have nb2 : w3.heap.size ≠ w.heap.size + 1 + 1 := by omega
    go_region_held3 (fun w' => w'.cell? ⟨b9, 0, none⟩ = some (.string fr) ∧ w'.cell? ⟨b9, 1, none⟩ = some (.string p.nm) ∧ w'.cell? ⟨b9, 2, none⟩ = some (.int .i64 p.out) ∧ w'.cell? ⟨b9, 3, none⟩ = some (.slice ah l.length ch) ∧
        w'.cell? ⟨w3.heap.size, 0, none⟩ = some (.string p.nm) ∧ w'.cell? ⟨w3.heap.size, 1, none⟩ = some (.int .i64 (p.out + 1)) ∧ w'.cell? ⟨w3.heap.size, 2, none⟩ = some (.int .i64 p.inn) ∧ w'.cell? ⟨w3.heap.size, 3, none⟩ = some (.slice a3 (p.wt.length + 1) c3') ∧ w'.cell? ⟨w3.heap.size, 4, none⟩ = some (.slice a7 (p.ours.length + l.length) c7) ∧ w'.cell? ⟨w3.heap.size, 5, none⟩ = some (.slice at2 p.thr.length ct2))
      (first
        | with_reducible exact ⟨drewC (keep4 (keep6 g0 nf1) nf2), drewC (keep4 (keep6 g1 nf1) nf2), drewC (keep4 (keep6 g2 nf1) nf2), drewC (keep4 (keep6 g3 nf1) nf2), drewC (keep4 (keep6 c0 nb1) nb2), drewC (keep4 (keep6 c1 nb1) nb2), drewC (keep4 (keep6 c2 nb1) nb2), drewC (keep4 (keep6 c3 nb1) nb2), drewC (keep4 (keep6 c4 nb1) nb2), drewC (keep4 (keep6 c5 nb1) nb2)⟩
        | with_reducible exact ⟨drewC (keep6 (keep4 g0 nf2) nf1), drewC (keep6 (keep4 g1 nf2) nf1), drewC (keep6 (keep4 g2 nf2) nf1), drewC (keep6 (keep4 g3 nf2) nf1), drewC (keep6 (keep4 c0 nb2) nb1), drewC (keep6 (keep4 c1 nb2) nb1), drewC (keep6 (keep4 c2 nb2) nb1), drewC (keep6 (keep4 c3 nb2) nb1), drewC (keep6 (keep4 c4 nb2) nb1), drewC (keep6 (keep4 c5 nb2) nb1)⟩
        | with_reducible exact ⟨drewC (keep6 g0 nf1), drewC (keep6 g1 nf1), drewC (keep6 g2 nf1), drewC (keep6 g3 nf1), drewC (keep6 c0 nb1), drewC (keep6 c1 nb1), drewC (keep6 c2 nb1), drewC (keep6 c3 nb1), drewC (keep6 c4 nb1), drewC (keep6 c5 nb1)⟩
        | with_reducible exact ⟨drewC (keep4 g0 nf2), drewC (keep4 g1 nf2), drewC (keep4 g2 nf2), drewC (keep4 g3 nf2), drewC (keep4 c0 nb2), drewC (keep4 c1 nb2), drewC (keep4 c2 nb2), drewC (keep4 c3 nb2), drewC (keep4 c4 nb2), drewC (keep4 c5 nb2)⟩
        | with_reducible exact ⟨drewC (g0), drewC (g1), drewC (g2), drewC (g3), drewC (c0), drewC (c1), drewC (c2), drewC (c3), drewC (c4), drewC (c5)⟩
        | with_reducible exact ⟨g0, g1, g2, g3, c0, c1, c2, c3, c4, c5⟩
        | go_keep)
      (fail)
    all_goals
      go_wp2_with (fail)
      have HS8 : SameOn (fun k => w.heap.size + 3 ≤ k ∧ k < wc2.heap.size) wc2 wc2 := SameOn.refl _ _
      refine bodyPost_ret (v := .tuple #[.agg #[.string p.nm, .int .i64 (p.out + 1), .int .i64 p.inn, .slice a3 (p.wt.length + 1) c3', .slice a7 (p.ours.length + l.length) c7, .slice at2 p.thr.length ct2], .agg #[.string fr, .string p.nm, .int .i64 p.out, .slice ah l.length ch], .int .i64 0]) (by simp [results, Tryz.results25, go_sem, d0, d1, d2, d3, d4, d5, f0, f1, f2, f3]) rfl
        ⟨ses_mk (p := { p with out := p.out + 1, wt := p.wt ++ [⟨fr, p.nm, p.out, l⟩], ours := p.ours ++ l }) (f := ⟨fr, p.nm, p.out, l⟩) HC.out (HY.out.ok.keep (fun k hk => ?_) ?_) ⟨HF0.out.1, HF0.out.2.1, HF0.out.2.2, HY.out.rs.keep (fun k hk => ?_) ?_⟩, ?_⟩
      · refine .inr ⟨by have := hk.1; omega, ?_⟩
        have := hk.2
        simpa using this
      · refine sameDrew ?_
        (repeat (first | (with_reducible exact HS8) | (with_reducible exact SameOn.refl _ _) | ((with_reducible refine SameOn.set ?_ ?_ _); rotate_left; focus (first | (simp; done) | (simp; omega))) | (with_reducible apply SameOn.drewN)))
      · refine ⟨by have := hk.1; omega, ?_⟩
        have := hk.2
        simpa using this
      · refine sameDrew ?_
        (repeat (first | (with_reducible exact HS8) | (with_reducible exact SameOn.refl _ _) | ((with_reducible refine SameOn.set ?_ ?_ _); rotate_left; focus (first | (simp; done) | (simp; omega))) | (with_reducible apply SameOn.drewN)))
      · refine Below.drew ?_
        (repeat (first | (with_reducible exact HY.out.bel) | (with_reducible apply bl_drewN) | (with_reducible apply bl_alloc) | ((with_reducible refine bl_set ?_ _ ?_); rotate_left; focus (first | exact Nat.le_refl _ | (simp; done) | (simp; omega)))))
theorem sendR_any (p : Par) (fr : ByteArray) (l : List Rec) (vw vo vt vl : Value) (w : World) (h : ParOk (· < w.heap.size) w p vw vo vt) (hs : SmallP p) (hfr : fr.size ≤ maxLen) (hl : SlIs tRec (· < w.heap.size) w vl l) (hll : l.length ≤ 2000) :
    Calls Tryz.prog 25 #[.agg #[.string p.nm, .int .i64 p.out, .int .i64 p.inn, vw, vo, vt], .string fr, vl] w fun e w' => SE w' e (sendC p fr l) ∧ Below w.heap.size w w' :=
  (sendR_gen (· < w.heap.size) p fr l vw vo vt vl w h (fun _ hk => hk) hs hfr hl hll).mono fun _ _ ⟨h1, h2⟩ => ⟨h1.se h2, h2⟩
end Go.Proofs.YtmjbbpappigngaaGreat
