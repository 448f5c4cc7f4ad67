/-
  Layer 43 (exchange): the walks of New and Receive; of the reference's.
-/
import Derived.Test.YtmjbbpappigngaaGreatExcSame
namespace Go.Tw.Exc
open Go.RowKit Go.Tw
theorem st6_0 {w : World} {b : Nat} {t : TypeId} {a0 a1 a2 a3 a4 a5 x : Value} (h : w.heap[b]? = some (.cells #[a0, a1, a2, a3, a4, a5] t (0, 0))) : (w.setCell ⟨b, 0, none⟩ x).heap[b]? = some (.cells #[x, a1, a2, a3, a4, a5] t (0, 0)) := heap_setCell_same _ _ 0 _ _ x h
theorem st6_1 {w : World} {b : Nat} {t : TypeId} {a0 a1 a2 a3 a4 a5 x : Value} (h : w.heap[b]? = some (.cells #[a0, a1, a2, a3, a4, a5] t (0, 0))) : (w.setCell ⟨b, 1, none⟩ x).heap[b]? = some (.cells #[a0, x, a2, a3, a4, a5] t (0, 0)) := heap_setCell_same _ _ 1 _ _ x h
theorem st6_2 {w : World} {b : Nat} {t : TypeId} {a0 a1 a2 a3 a4 a5 x : Value} (h : w.heap[b]? = some (.cells #[a0, a1, a2, a3, a4, a5] t (0, 0))) : (w.setCell ⟨b, 2, none⟩ x).heap[b]? = some (.cells #[a0, a1, x, a3, a4, a5] t (0, 0)) := heap_setCell_same _ _ 2 _ _ x h
theorem st6_3 {w : World} {b : Nat} {t : TypeId} {a0 a1 a2 a3 a4 a5 x : Value} (h : w.heap[b]? = some (.cells #[a0, a1, a2, a3, a4, a5] t (0, 0))) : (w.setCell ⟨b, 3, none⟩ x).heap[b]? = some (.cells #[a0, a1, a2, x, a4, a5] t (0, 0)) := heap_setCell_same _ _ 3 _ _ x h
theorem st6_4 {w : World} {b : Nat} {t : TypeId} {a0 a1 a2 a3 a4 a5 x : Value} (h : w.heap[b]? = some (.cells #[a0, a1, a2, a3, a4, a5] t (0, 0))) : (w.setCell ⟨b, 4, none⟩ x).heap[b]? = some (.cells #[a0, a1, a2, a3, x, a5] t (0, 0)) := heap_setCell_same _ _ 4 _ _ x h
theorem st6_5 {w : World} {b : Nat} {t : TypeId} {a0 a1 a2 a3 a4 a5 x : Value} (h : w.heap[b]? = some (.cells #[a0, a1, a2, a3, a4, a5] t (0, 0))) : (w.setCell ⟨b, 5, none⟩ x).heap[b]? = some (.cells #[a0, a1, a2, a3, a4, x] t (0, 0)) := heap_setCell_same _ _ 5 _ _ x h
theorem set6_same {w : World} {b : Nat} {t : TypeId} {a0 a1 a2 a3 a4 a5 x0 x1 x2 x3 x4 x5 : Value} (h : w.heap[b]? = some (.cells #[a0, a1, a2, a3, a4, a5] t (0, 0))) :
    ((((((w.setCell ⟨b, 0, none⟩ x0).setCell ⟨b, 1, none⟩ x1).setCell ⟨b, 2, none⟩ x2).setCell ⟨b, 3, none⟩ x3).setCell ⟨b, 4, none⟩ x4).setCell ⟨b, 5, none⟩ x5).heap[b]? = some (.cells #[x0, x1, x2, x3, x4, x5] t (0, 0)) :=
  st6_5 (st6_4 (st6_3 (st6_2 (st6_1 (st6_0 h)))))
theorem set6_ne {w : World} {b k : Nat} {x0 x1 x2 x3 x4 x5 : Value} (h : k ≠ b) :
    ((((((w.setCell ⟨b, 0, none⟩ x0).setCell ⟨b, 1, none⟩ x1).setCell ⟨b, 2, none⟩ x2).setCell ⟨b, 3, none⟩ x3).setCell ⟨b, 4, none⟩ x4).setCell ⟨b, 5, none⟩ x5).heap[k]? = w.heap[k]? :=
  (Below.heap_setCell _ _ _ _ h).trans ((Below.heap_setCell _ _ _ _ h).trans ((Below.heap_setCell _ _ _ _ h).trans ((Below.heap_setCell _ _ _ _ h).trans ((Below.heap_setCell _ _ _ _ h).trans (Below.heap_setCell _ _ _ _ h)))))
theorem recv_c {p : Par} {f : Fil} (h : checkC f ≠ 0) : recvC p f = (p, checkC f) := by unfold recvC; rw [if_pos h]
theorem recv_n {p : Par} {f : Fil} (h : checkC f = 0) : recvC p f = if f.fr ≠ p.nm then (p, 30) else if p.inn < f.sq then (p, 31) else if f.sq ≠ p.inn then (p, 0) else if 1024 < p.thr.length + f.rs.length then (p, 3) else ({ p with inn := p.inn + 1, thr := p.thr ++ f.rs }, 0) := by unfold recvC; rw [if_neg (by simp [h])]
theorem check_sq {f : Fil} (h : checkC f = 0) : 1 ≤ f.sq ∧ f.sq ≤ 2147483648 ∧ f.rs.length ≤ 1024 := by
  unfold checkC at h
  split at h
  · rename_i q; exact absurd h q
  · rename_i q
    split at h
    · cases h
    · rename_i q2
      have q3 : headC f.fr f.to f.sq = 0 := by simpa using q
      unfold headC at q3
      split at q3
      · cases q3
      · split at q3
        · cases q3
        · split at q3
          · cases q3
          · omega
end Go.Tw.Exc
namespace Go.Proofs.YtmjbbpappigngaaGreat
open Go.RowKit Go.Tw Go.Tw.Exc
/-- a partner and a number are returned -/
def PE (w' : World) (e : Ending) (q : Par × Int) : Prop := ∃ vw vo vt, e = .returned (.tuple #[.agg #[.string q.1.nm, .int .i64 q.1.out, .int .i64 q.1.inn, vw, vo, vt], .int .i64 q.2]) ∧ ParOk (· < w'.heap.size) w' q.1 vw vo vt
theorem pe_mk {w' : World} {q : Par × Int} {p : Par} {err : Int} {vw vo vt : Value} (h : q = (p, err)) (ho : ParOk (· < w'.heap.size) w' p vw vo vt) : PE w' (.returned (.tuple #[.agg #[.string p.nm, .int .i64 p.out, .int .i64 p.inn, vw, vo, vt], .int .i64 err])) q := by
  subst h; exact ⟨_, _, _, rfl, ho⟩
/-- .. and the partner's memory is that of S, or new -/
def PEs (S : Nat → Prop) (w w' : World) (e : Ending) (q : Par × Int) : Prop := ∃ vw vo vt, e = .returned (.tuple #[.agg #[.string q.1.nm, .int .i64 q.1.out, .int .i64 q.1.inn, vw, vo, vt], .int .i64 q.2]) ∧ ParOk (fun k => S k ∨ (w.heap.size ≤ k ∧ k < w'.heap.size)) w' q.1 vw vo vt
theorem pes_mk {S : Nat → Prop} {w w' : World} {q : Par × Int} {p : Par} {err : Int} {vw vo vt : Value} (h : q = (p, err)) (ho : ParOk (fun k => S k ∨ (w.heap.size ≤ k ∧ k < w'.heap.size)) w' p vw vo vt) : PEs S w w' (.returned (.tuple #[.agg #[.string p.nm, .int .i64 p.out, .int .i64 p.inn, vw, vo, vt], .int .i64 err])) q := by
  subst h; exact ⟨_, _, _, rfl, ho⟩
theorem PEs.pe {w w' : World} {e : Ending} {q : Par × Int} (h : PEs (· < w.heap.size) w w' e q) (hb : Below w.heap.size w w') : PE w' e q := by
  obtain ⟨vw, vo, vt, h1, h2⟩ := h
  have := hb.size
  exact ⟨vw, vo, vt, h1, h2.keep (fun k hk => by rcases hk with q | q <;> omega) (SameOn.refl _ _)⟩
theorem parOk_stepS {S : Nat → Prop} {w w' : World} {p : Par} {a b c : Value} (h : ParOk S w p a b c) (hS : ∀ k, S k → k < w.heap.size) (hb : Below w.heap.size w w') : ParOk (fun k => S k ∨ (w.heap.size ≤ k ∧ k < w'.heap.size)) w' p a b c :=
  h.keep (fun _ hk => .inl hk) (fun k hk => hb.block k (hS k hk))
theorem parOk_zero {S : Nat → Prop} {w : World} : ParOk S w zeroP (.slice none 0 0) (.slice none 0 0) (.slice none 0 0) := ⟨by decide, by unfold i64ok zeroP; decide, by unfold i64ok zeroP; decide, SlIs.nil, SlIs.nil, SlIs.nil⟩
/-- records are appended to the copy's Theirs -/
theorem OwnP.pushT {B : Nat} {w2 wb w3 : World} {p : Par} {vw vo vt v' : Value} {rs : List Rec} {n : Int} (h : OwnP B w2 p vw vo vt) (hwb : ∀ k, B ≤ k → k < w2.heap.size → wb.heap[k]? = w2.heap[k]?) (hsz : w2.heap.size ≤ wb.heap.size) (hg : wb.grownBy w3 vt.ownBlock) (ho : OwnSl tRec 49 B w3 v' (p.thr ++ rs))
    (hor : v'.ownBlock = vt.ownBlock ∨ v'.ownBlock = some wb.heap.size) {S : Nat → Prop} {w0 : World} {a b c : Value} (h0 : ParOk S w0 p a b c) (hn : i64ok n) : ParOk (fun k => ((B ≤ k ∧ k < w2.heap.size) ∨ k = wb.heap.size) ∧ k < w3.heap.size) w3 { p with inn := n, thr := p.thr ++ rs } vw vo v' := by
  have hgs := hg.size
  obtain ⟨F1, F2, F3, h1, h2, h3, n1, n2, n3, b1, b2, b3, d12, d13, d23⟩ := h
  have hrow : ∀ k, vt.ownBlock = some k → k ∈ F3 := h3.blk
  have k1 := h1.keep (w' := w3) (fun b hb => (hg.block b (Nat.lt_of_lt_of_le (h1.lt b hb) hsz) (fun e => d13 b hb (hrow b e.symm))).trans (hwb b (b1 b hb) (h1.lt b hb)))
  have k2 := h2.keep (w' := w3) (fun b hb => (hg.block b (Nat.lt_of_lt_of_le (h2.lt b hb) hsz) (fun e => d23 b hb (hrow b e.symm))).trans (hwb b (b2 b hb) (h2.lt b hb)))
  refine ⟨h0.nm, h0.out, hn, k1.sl.keep (fun k hk => ⟨.inl ⟨b1 k hk, h1.lt k hk⟩, k1.lt k hk⟩) (SameOn.refl _ _), k2.sl.keep (fun k hk => ⟨.inl ⟨b2 k hk, h2.lt k hk⟩, k2.lt k hk⟩) (SameOn.refl _ _), ?_⟩
  obtain ⟨q1, -, -⟩ := OwnL.ofOwn (T := tRec) ownRec ho
  refine q1.sl.keep (fun k hk => ?_) (SameOn.refl _ _)
  have hk' : v'.ownBlock = some k := by simpa using hk
  refine ⟨?_, (ho.own_lt k hk').2⟩
  rcases hor with e | e
  · have := hrow k (by rw [← e]; exact hk')
    exact .inl ⟨b3 k this, h3.lt k this⟩
  · rw [e] at hk'
    exact .inr (by injection hk' with q; exact q.symm)
theorem OwnP.ownT {B : Nat} {w : World} {p : Par} {vw vo vt : Value} (h : OwnP B w p vw vo vt) : OwnSl tRec 49 B w vt p.thr := by
  obtain ⟨F1, F2, F3, -, -, h3, -, -, n3, -, -, b3, -⟩ := h
  exact h3.to n3 b3
theorem OwnSl.on {α : Type} {T : Ty α} {e : TypeId} {B : Nat} {w w' : World} {v : Value} {l : List α} (h : OwnSl T e B w v l) (hF : T.Flat) (hw : ∀ k, B ≤ k → k < w.heap.size → w'.heap[k]? = w.heap[k]?) (_ : w.heap.size ≤ w'.heap.size) : OwnSl T e B w' v l := by
  obtain ⟨css, h1, h2⟩ := h
  have hl := h1.lt
  refine ⟨css, ⟨h1.1, ?_⟩, h2.flat hF⟩
  rcases h1.2 with q | ⟨g, cap, cur, rfl, hb, hgg, rest⟩
  · exact .inl q
  · exact .inr ⟨g, cap, cur, rfl, hb, (hw g hb (lt_of_heap hgg)).trans hgg, rest⟩
set_option maxHeartbeats 1000000 in
theorem newR_any (nm : ByteArray) (w : World) (hs : nm.size ≤ maxLen) : Calls Tryz.prog 24 #[.string nm] w fun e w' => PE w' e (newC nm) ∧ Below w.heap.size w w' := by
  have HN := Lib.hid (show ∀ W, Calls Tryz.prog 48 #[.string nm] W fun e w' => e = .returned (.bool (nameC nm)) ∧ Below W.heap.size W w' from fun W => NameR_any nm W)
  have HS := Lib.hid hs
  clear hs
  cases hn : nameC nm
  · have HC := Lib.hid (show newC nm = (zeroP, 6) by unfold newC; rw [if_pos hn])
    rw [hn] at HN
    clear hn
    go_enter Tryz.func24, Tryz.ntmps24
    go_wp2_with (go_at_call 48; refine (HN.out _).mono ?_; rintro e w1 ⟨rfl, hb1⟩; obtain ⟨d0, d1, d2, d3, d4, d5, df⟩ := blk6' (below_new hb1 (by simp)); have HW := Lib.hid (bl_trans (bl_alloc (Below.refl w.heap.size w) _) hb1); clear hb1)
    refine bodyPost_ret (v := .tuple #[.agg #[.string ByteArray.empty, .int .i64 0, .int .i64 0, .slice none 0 0, .slice none 0 0, .slice none 0 0], .int .i64 6]) (by simp [results, Tryz.results24, go_sem, d0, d1, d2, d3, d4, d5]; rfl) rfl ⟨pe_mk HC.out parOk_zero, ?_⟩
    (repeat (first | (with_reducible exact HW.out) | (with_reducible apply bl_drewN) | (with_reducible apply bl_alloc) | ((with_reducible refine bl_set ?_ _ ?_); rotate_left; focus (first | exact Nat.le_refl _ | (simp; done) | (simp; omega)))))
  · have HC := Lib.hid (show newC nm = (⟨nm, 1, 1, [], [], []⟩, 0) by unfold newC; rw [if_neg (by simp [hn])])
    rw [hn] at HN
    clear hn
    go_enter Tryz.func24, Tryz.ntmps24
    go_wp2_with (go_at_call 48; refine (HN.out _).mono ?_; rintro e w1 ⟨rfl, hb1⟩; obtain ⟨d0, d1, d2, d3, d4, d5, df⟩ := blk6' (below_new hb1 (by simp)); have HW := Lib.hid (bl_trans (bl_alloc (Below.refl w.heap.size w) _) hb1); clear hb1)
    refine bodyPost_ret (v := .tuple #[.agg #[.string nm, .int .i64 1, .int .i64 1, .slice none 0 0, .slice none 0 0, .slice none 0 0], .int .i64 0]) (by simp [results, Tryz.results24, go_sem, d0, d1, d2, d3, d4, d5]) rfl ⟨pe_mk HC.out ⟨HS.out, (show i64ok 1 by unfold i64ok; decide), (show i64ok 1 by unfold i64ok; decide), SlIs.nil, SlIs.nil, SlIs.nil⟩, ?_⟩
    (repeat (first | (with_reducible exact HW.out) | (with_reducible apply bl_drewN) | (with_reducible apply bl_alloc) | ((with_reducible refine bl_set ?_ _ ?_); rotate_left; focus (first | exact Nat.le_refl _ | (simp; done) | (simp; omega)))))
set_option maxRecDepth 100000 in
set_option maxHeartbeats 4000000 in
theorem recv_gen (S : Nat → Prop) (p : Par) (f : Fil) (vw vo vt vf : Value) (w : World) (hsp : ParOk S w p vw vo vt) (hss : ∀ k, S k → k < w.heap.size) (hs : SmallP p) (hf : FilOk (· < w.heap.size) w f vf) :
    Calls Tryz.prog 53 #[.agg #[.string p.nm, .int .i64 p.out, .int .i64 p.inn, vw, vo, vt], .agg #[.string f.fr, .string f.to, .int .i64 f.sq, vf]] w fun e w' => PEs S w w' e (recvC p f) ∧ Below w.heap.size w w' := by
  have h : ParOk (· < w.heap.size) w p vw vo vt := hsp.keep hss (SameOn.refl _ _)
  have HP := Lib.hid h
  have HPS := Lib.hid hsp
  have HSS := Lib.hid hss
  have HS := Lib.hid hs
  have HF := Lib.hid hf
  obtain ⟨aw, cw, bw, ow, rfl, hw1, hw2, -⟩ := id h.wt
  obtain ⟨ao, co, bo, oo, rfl, ho1, ho2, -⟩ := id h.ours
  obtain ⟨at', ct, bt, ot, rfl, ht1, ht2, -⟩ := id h.thr
  obtain ⟨af, cf', bf, of, rfl, hf1, hf2, -⟩ := id hf.rs
  unfold maxLen at hw2 ho2 ht2 hf2
  have hsq := hf.sq
  have hinn := h.inn
  unfold i64ok at hsq hinn
  clear h hs hf hsp hss
  go_enter Tryz.func53, Tryz.ntmps53
  go_wp2_with (fail)
  refine (check_any f _ _ (HF.out.rs.step (bl_alloc (bl_alloc (bl_alloc (Below.refl _ _) _) _) _))).mono ?_
  rintro e w1 ⟨rfl, hb1⟩
  have n0 := Go.Tw.Below.at_old hb1 (alloc3_0 w _ _ _)
  have n1 := Go.Tw.Below.at_old hb1 (alloc3_1 w _ _ _)
  have n2 := Go.Tw.Below.at_old hb1 (alloc3_2 w _ _ _)
  have HW := Lib.hid (bl_trans (bl_alloc (bl_alloc (bl_alloc (Below.refl w.heap.size w) _) _) _) hb1)
  have hsz : w.heap.size + 3 ≤ w1.heap.size := by have := hb1.size; simpa using this
  obtain ⟨c0, c1, c2, c3, c4, c5, cf⟩ := blk6' n0
  obtain ⟨f0, f1, f2, f3, ff⟩ := blk4 n1
  obtain ⟨d0, d1, d2, d3, d4, d5, df⟩ := blk6' n2
  have HN0 := Lib.hid n0
  have HN1 := Lib.hid n1
  have HN2 := Lib.hid n2
  clear hb1 n0 n1 n2
  by_cases q0 : checkC f = 0
  case neg =>
    have HC := Lib.hid (recv_c (p := p) q0)
    have hq : (checkC f != 0) = true := by simpa using q0
    obtain ⟨x, hx⟩ : ∃ x, checkC f = x := ⟨_, rfl⟩
    rw [hx] at HC hq ⊢
    clear q0 hx
    go_wp2_with (fail)
    refine bodyPost_ret (v := .tuple #[.agg #[.string p.nm, .int .i64 p.out, .int .i64 p.inn, .slice aw p.wt.length cw, .slice ao p.ours.length co, .slice at' p.thr.length ct], .int .i64 x]) (by simp [results, Tryz.results53, go_sem, d0, d1, d2, d3, d4, d5]) rfl ⟨pes_mk HC.out (parOk_stepS HPS.out HSS.out ?_), ?_⟩
    · (repeat (first | (with_reducible exact HW.out) | (with_reducible apply bl_drewN) | (with_reducible apply bl_alloc) | ((with_reducible refine bl_set ?_ _ ?_); rotate_left; focus (first | exact Nat.le_refl _ | (simp; done) | (simp; omega)))))
    · (repeat (first | (with_reducible exact HW.out) | (with_reducible apply bl_drewN) | (with_reducible apply bl_alloc) | ((with_reducible refine bl_set ?_ _ ?_); rotate_left; focus (first | exact Nat.le_refl _ | (simp; done) | (simp; omega)))))
  have hcs := check_sq q0
  have hc := recv_n (p := p) q0
  rw [q0]
  by_cases q1 : f.fr = p.nm
  case neg =>
    rw [if_pos q1] at hc
    have HC := Lib.hid hc
    have hq : (f.fr.toList == p.nm.toList) = false := by rw [str_eq]; simp [q1]
    clear q0 q1 hc
    go_wp2_with (fail)
    refine bodyPost_ret (v := .tuple #[.agg #[.string p.nm, .int .i64 p.out, .int .i64 p.inn, .slice aw p.wt.length cw, .slice ao p.ours.length co, .slice at' p.thr.length ct], .int .i64 30]) (by simp [results, Tryz.results53, go_sem, d0, d1, d2, d3, d4, d5]) rfl ⟨pes_mk HC.out (parOk_stepS HPS.out HSS.out ?_), ?_⟩
    · (repeat (first | (with_reducible exact HW.out) | (with_reducible apply bl_drewN) | (with_reducible apply bl_alloc) | ((with_reducible refine bl_set ?_ _ ?_); rotate_left; focus (first | exact Nat.le_refl _ | (simp; done) | (simp; omega)))))
    · (repeat (first | (with_reducible exact HW.out) | (with_reducible apply bl_drewN) | (with_reducible apply bl_alloc) | ((with_reducible refine bl_set ?_ _ ?_); rotate_left; focus (first | exact Nat.le_refl _ | (simp; done) | (simp; omega)))))
  have hq : (f.fr.toList == p.nm.toList) = true := by rw [str_eq]; simp [q1]
  rw [if_neg (by simp [q1])] at hc
  by_cases q2 : p.inn < f.sq
  · rw [if_pos q2] at hc
    have HC := Lib.hid hc
    clear q0 q1 hc
    go_wp2_with (fail)
    refine bodyPost_ret (v := .tuple #[.agg #[.string p.nm, .int .i64 p.out, .int .i64 p.inn, .slice aw p.wt.length cw, .slice ao p.ours.length co, .slice at' p.thr.length ct], .int .i64 31]) (by simp [results, Tryz.results53, go_sem, d0, d1, d2, d3, d4, d5]) rfl ⟨pes_mk HC.out (parOk_stepS HPS.out HSS.out ?_), ?_⟩
    · (repeat (first | (with_reducible exact HW.out) | (with_reducible apply bl_drewN) | (with_reducible apply bl_alloc) | ((with_reducible refine bl_set ?_ _ ?_); rotate_left; focus (first | exact Nat.le_refl _ | (simp; done) | (simp; omega)))))
    · (repeat (first | (with_reducible exact HW.out) | (with_reducible apply bl_drewN) | (with_reducible apply bl_alloc) | ((with_reducible refine bl_set ?_ _ ?_); rotate_left; focus (first | exact Nat.le_refl _ | (simp; done) | (simp; omega)))))
  have hq2 : decide (p.inn < f.sq) = false := by simpa using q2
  rw [if_neg q2] at hc
  by_cases q3 : f.sq = p.inn
  case neg =>
    rw [if_pos q3] at hc
    have HC := Lib.hid hc
    have hq3 : (f.sq == p.inn) = false := by simpa using q3
    have hq4 : f.sq < p.inn := by omega
    clear q0 q1 q2 q3 hc
    go_wp2_with (fail)
    refine bodyPost_ret (v := .tuple #[.agg #[.string p.nm, .int .i64 p.out, .int .i64 p.inn, .slice aw p.wt.length cw, .slice ao p.ours.length co, .slice at' p.thr.length ct], .int .i64 0]) (by simp [results, Tryz.results53, go_sem, d0, d1, d2, d3, d4, d5]) rfl ⟨pes_mk HC.out (parOk_stepS HPS.out HSS.out ?_), ?_⟩
    · (repeat (first | (with_reducible exact HW.out) | (with_reducible apply bl_drewN) | (with_reducible apply bl_alloc) | ((with_reducible refine bl_set ?_ _ ?_); rotate_left; focus (first | exact Nat.le_refl _ | (simp; done) | (simp; omega)))))
    · (repeat (first | (with_reducible exact HW.out) | (with_reducible apply bl_drewN) | (with_reducible apply bl_alloc) | ((with_reducible refine bl_set ?_ _ ?_); rotate_left; focus (first | exact Nat.le_refl _ | (simp; done) | (simp; omega)))))
  have hq3 : (f.sq == p.inn) = true := by simpa using q3
  have hq4 : decide (f.sq < p.inn) = false := by simp; omega
  rw [if_neg (by simp [q3])] at hc
  have hts := HS.out.thr
  by_cases q4 : 1024 < p.thr.length + f.rs.length
  · rw [if_pos q4] at hc
    have HC := Lib.hid hc
    have hq5 : (1024 : Int) < (p.thr.length : Int) + (f.rs.length : Int) := by omega
    have hq6 : IntKind.i64.wrap ((p.thr.length : Int) + (f.rs.length : Int)) = (p.thr.length : Int) + (f.rs.length : Int) := wrap_in (by omega) (by omega)
    clear q0 q1 q2 q3 q4 hc
    go_wp2_with (fail)
    refine bodyPost_ret (v := .tuple #[.agg #[.string p.nm, .int .i64 p.out, .int .i64 p.inn, .slice aw p.wt.length cw, .slice ao p.ours.length co, .slice at' p.thr.length ct], .int .i64 3]) (by simp [results, Tryz.results53, go_sem, d0, d1, d2, d3, d4, d5]) rfl ⟨pes_mk HC.out (parOk_stepS HPS.out HSS.out ?_), ?_⟩
    · (repeat (first | (with_reducible exact HW.out) | (with_reducible apply bl_drewN) | (with_reducible apply bl_alloc) | ((with_reducible refine bl_set ?_ _ ?_); rotate_left; focus (first | exact Nat.le_refl _ | (simp; done) | (simp; omega)))))
    · (repeat (first | (with_reducible exact HW.out) | (with_reducible apply bl_drewN) | (with_reducible apply bl_alloc) | ((with_reducible refine bl_set ?_ _ ?_); rotate_left; focus (first | exact Nat.le_refl _ | (simp; done) | (simp; omega)))))
  rw [if_neg q4] at hc
  have HC := Lib.hid hc
  have hq5 : decide ((1024 : Int) < (p.thr.length : Int) + (f.rs.length : Int)) = false := by simp; omega
  have hq6 : IntKind.i64.wrap ((p.thr.length : Int) + (f.rs.length : Int)) = (p.thr.length : Int) + (f.rs.length : Int) := wrap_in (by omega) (by omega)
  have hq7 : IntKind.i64.wrap (p.inn + 1) = p.inn + 1 := wrap_in (by omega) (by omega)
  have hin : 1 ≤ p.inn ∧ p.inn ≤ 2147483648 := by omega
  clear q0 q1 q2 q3 hc
  go_wp2_with (fail)
  refine (partner_any p _ _ _ _ (HP.out.step HW.out) HS.out).mono ?_
  rintro e w2 ⟨vw', vo', vt', rfl, hown, hb2⟩
  obtain ⟨⟨aw', cw', rfl, hw1', hw2'⟩, ⟨ao', co', rfl, ho1', ho2'⟩, ⟨at2, ct2, rfl, ht1', ht2'⟩⟩ := hown.form
  unfold maxLen at hw2' ho2' ht2'
  have HOW := Lib.hid hown
  have HW2 := Lib.hid (bl_trans HW.out hb2)
  have hsz2 : w1.heap.size ≤ w2.heap.size := hb2.size
  have m0 := Go.Tw.Below.at_old hb2 HN0.out
  have m1 := Go.Tw.Below.at_old hb2 HN1.out
  have m2 := Go.Tw.Below.at_old hb2 HN2.out
  clear c0 c1 c2 c3 c4 c5 cf f0 f1 f2 f3 ff d0 d1 d2 d3 d4 d5 df hown hb2 hw1 hw2 ho1 ho2 ht1 ht2
  obtain ⟨c0, c1, c2, c3, c4, c5, cf⟩ := blk6' m0
  obtain ⟨f0, f1, f2, f3, ff⟩ := blk4 m1
  obtain ⟨d0, d1, d2, d3, d4, d5, df⟩ := blk6' m2
  go_upto_region 14 with (fail)
  obtain ⟨wb, hwb⟩ : ∃ wb, (((((((w2.setCell ⟨w.heap.size, 0, none⟩ (.string p.nm)).setCell ⟨w.heap.size, 1, none⟩ (.int .i64 p.out)).setCell ⟨w.heap.size, 2, none⟩ (.int .i64 p.inn)).setCell ⟨w.heap.size, 3, none⟩ (.slice aw' p.wt.length cw')).setCell ⟨w.heap.size, 4, none⟩ (.slice ao' p.ours.length co')).setCell ⟨w.heap.size, 5, none⟩ (.slice at2 p.thr.length ct2)).setCell ⟨w.heap.size, 2, none⟩ (.int .i64 (p.inn + 1))) = wb := ⟨_, rfl⟩
  have hb0 := st6_2 (x := .int .i64 (p.inn + 1)) (set6_same (x0 := .string p.nm) (x1 := .int .i64 p.out) (x2 := .int .i64 p.inn) (x3 := .slice aw' p.wt.length cw') (x4 := .slice ao' p.ours.length co') (x5 := .slice at2 p.thr.length ct2) m0)
  rw [hwb] at hb0 ⊢
  have hne : ∀ k, k ≠ w.heap.size → wb.heap[k]? = w2.heap[k]? := fun k hk => by rw [← hwb]; exact (Below.heap_setCell _ _ _ _ hk).trans (set6_ne hk)
  have hszb : wb.heap.size = w2.heap.size := by rw [← hwb]; simp
  have HBX := Lib.hid hb0
  have HWB := Lib.hid (show Below w.heap.size w wb by rw [← hwb]; exact bl_set (bl_set (bl_set (bl_set (bl_set (bl_set (bl_set HW2.out _ (Nat.le_refl _)) _ (Nat.le_refl _)) _ (Nat.le_refl _)) _ (Nat.le_refl _)) _ (Nat.le_refl _)) _ (Nat.le_refl _)) _ (Nat.le_refl _))
  have HFB := Lib.hid ((hne (w.heap.size + 1) (by omega)).trans m1)
  have HRB := Lib.hid ((hne (w.heap.size + 1 + 1) (by omega)).trans m2)
  have HNE := Lib.hid (show ∀ k, w1.heap.size ≤ k → k < w2.heap.size → wb.heap[k]? = w2.heap[k]? from fun k h1 _ => hne k (by omega))
  have hszb' : w2.heap.size ≤ wb.heap.size := by omega
  clear hwb hne m0 m1 m2 hb0
  clear c0 c1 c2 c3 c4 c5 cf f0 f1 f2 f3 ff d0 d1 d2 d3 d4 d5 df
  obtain ⟨c0, c1, c2, c3, c4, c5, cf⟩ := blk6' HBX.out
  obtain ⟨f0, f1, f2, f3, ff⟩ := blk4 HFB.out
  have HOT := Lib.hid (OwnSl.on HOW.out.ownT flatRec HNE.out hszb')
  have HFR := Lib.hid (HF.out.rs.keep (fun _ h => h) (.of_below HWB.out))
  have HLT := Lib.hid (show ∀ k, (Value.slice at2 p.thr.length ct2).ownBlock = some k → w1.heap.size ≤ k ∧ k < w2.heap.size from HOW.out.ownT.own_lt)
  go_wp2_with (
    at_builtin
    refine wpList_append_sl (.tmp 53) (.tmp 55) rfl 27 rfl slRec rfl HOT.out rfl HFR.out (fun k (hk : k < w.heap.size) => ⟨by omega, fun e => by have := (HLT.out k e.symm).1; omega⟩) (by omega) (by unfold maxLen; omega) (by omega) ?_
    intro v' w3 ho hg hor
    obtain ⟨a3, c3', e3, -⟩ := id ho.form
    rw [List.length_append] at e3
    subst e3
    have HO3 := Lib.hid ho
    have HG3 := Lib.hid hg
    have HOR := Lib.hid hor
    have g0 := (hg.block w.heap.size (by omega) (fun e => by have := HLT.out _ e.symm; omega)).trans HBX.out
    have g2 := (hg.block (w.heap.size + 1 + 1) (by omega) (fun e => by have := HLT.out _ e.symm; omega)).trans HRB.out
    obtain ⟨x0, x1, x2, x3, x4, x5, xf⟩ := blk6' g0
    obtain ⟨d0, d1, d2, d3, d4, d5, df⟩ := blk6' g2
    have hsz3 := hg.size
    have HW3 := Lib.hid (HWB.out.grown hg (by omega) (fun k e => by have := HLT.out k e; omega))
    clear ho hg hor g0 g2)
  have HFIN := Lib.hid (OwnP.pushT (n := p.inn + 1) HOW.out HNE.out hszb' HG3.out HO3.out HOR.out HP.out (by unfold i64ok; omega))
  refine bodyPost_ret (v := .tuple #[.agg #[.string p.nm, .int .i64 p.out, .int .i64 (p.inn + 1), .slice aw' p.wt.length cw', .slice ao' p.ours.length co', .slice a3 (p.thr.length + f.rs.length) c3'], .int .i64 0]) (by simp [results, Tryz.results53, go_sem, d0, d1, d2, d3, d4, d5]) rfl ⟨pes_mk HC.out (HFIN.out.keep (fun k hk => ?_) ?_), ?_⟩
  · refine .inr ⟨by rcases hk.1 with q | q <;> omega, ?_⟩
    have := hk.2
    simp
    exact this
  · (repeat (first | (with_reducible exact SameOn.refl _ _) | (with_reducible exact SameOn.refl _ _) | ((with_reducible refine SameOn.set ?_ ?_ _); rotate_left; focus (first | (simp; done) | (simp; omega))) | (with_reducible apply SameOn.drewN)))
  · (repeat (first | (with_reducible exact HW3.out) | (with_reducible apply bl_drewN) | (with_reducible apply bl_alloc) | ((with_reducible refine bl_set ?_ _ ?_); rotate_left; focus (first | exact Nat.le_refl _ | (simp; done) | (simp; omega)))))
theorem recv_any (p : Par) (f : Fil) (vw vo vt vf : Value) (w : World) (h : ParOk (· < w.heap.size) w p vw vo vt) (hs : SmallP p) (hf : FilOk (· < w.heap.size) w f vf) :
    Calls Tryz.prog 53 #[.agg #[.string p.nm, .int .i64 p.out, .int .i64 p.inn, vw, vo, vt], .agg #[.string f.fr, .string f.to, .int .i64 f.sq, vf]] w fun e w' => PE w' e (recvC p f) ∧ Below w.heap.size w w' :=
  (recv_gen (· < w.heap.size) p f vw vo vt vf w h (fun _ hk => hk) hs hf).mono fun _ _ ⟨h1, h2⟩ => ⟨h1.pe h2, h2⟩
set_option maxRecDepth 100000 in
set_option maxHeartbeats 4000000 in
theorem recvR_gen (S : Nat → Prop) (p : Par) (f : Fil) (vw vo vt vf : Value) (w : World) (hsp : ParOk S w p vw vo vt) (hss : ∀ k, S k → k < w.heap.size) (hs : SmallP p) (hf : FilOk (· < w.heap.size) w f vf) :
    Calls Tryz.prog 55 #[.agg #[.string p.nm, .int .i64 p.out, .int .i64 p.inn, vw, vo, vt], .agg #[.string f.fr, .string f.to, .int .i64 f.sq, vf]] w fun e w' => PEs S w w' e (recvC p f) ∧ Below w.heap.size w w' := by
  have h : ParOk (· < w.heap.size) w p vw vo vt := hsp.keep hss (SameOn.refl _ _)
  have HP := Lib.hid h
  have HPS := Lib.hid hsp
  have HSS := Lib.hid hss
  have HS := Lib.hid hs
  have HF := Lib.hid hf
  obtain ⟨aw, cw, bw, ow, rfl, hw1, hw2, -⟩ := id h.wt
  obtain ⟨ao, co, bo, oo, rfl, ho1, ho2, -⟩ := id h.ours
  obtain ⟨at', ct, bt, ot, rfl, ht1, ht2, -⟩ := id h.thr
  obtain ⟨af, cf', bf, of, rfl, hf1, hf2, -⟩ := id hf.rs
  unfold maxLen at hw2 ho2 ht2 hf2
  have hsq := hf.sq
  have hinn := h.inn
  unfold i64ok at hsq hinn
  clear h hs hf hsp hss
  go_enter Tryz.func55, Tryz.ntmps55
  go_wp2_with (fail)
  refine (checkR_any f _ _ (HF.out.rs.step (bl_alloc (bl_alloc (bl_alloc (Below.refl _ _) _) _) _))).mono ?_
  rintro e w1 ⟨rfl, hb1⟩
  have n0 := Go.Tw.Below.at_old hb1 (alloc3_0 w _ _ _)
  have n1 := Go.Tw.Below.at_old hb1 (alloc3_1 w _ _ _)
  have n2 := Go.Tw.Below.at_old hb1 (alloc3_2 w _ _ _)
  have HW := Lib.hid (bl_trans (bl_alloc (bl_alloc (bl_alloc (Below.refl w.heap.size w) _) _) _) hb1)
  have hsz : w.heap.size + 3 ≤ w1.heap.size := by have := hb1.size; simpa using this
  obtain ⟨c0, c1, c2, c3, c4, c5, cf⟩ := blk6' n0
  obtain ⟨f0, f1, f2, f3, ff⟩ := blk4 n1
  obtain ⟨d0, d1, d2, d3, d4, d5, df⟩ := blk6' n2
  have HN0 := Lib.hid n0
  have HN1 := Lib.hid n1
  have HN2 := Lib.hid n2
  clear hb1 n0 n1 n2
  by_cases q0 : checkC f = 0
  case neg =>
    have HC := Lib.hid (recv_c (p := p) q0)
    have hq : (checkC f != 0) = true := by simpa using q0
    obtain ⟨x, hx⟩ : ∃ x, checkC f = x := ⟨_, rfl⟩
    rw [hx] at HC hq ⊢
    clear q0 hx
    go_wp2_with (fail)
    refine bodyPost_ret (v := .tuple #[.agg #[.string p.nm, .int .i64 p.out, .int .i64 p.inn, .slice aw p.wt.length cw, .slice ao p.ours.length co, .slice at' p.thr.length ct], .int .i64 x]) (by simp [results, Tryz.results55, go_sem, d0, d1, d2, d3, d4, d5]) rfl ⟨pes_mk HC.out (parOk_stepS HPS.out HSS.out ?_), ?_⟩
    · (repeat (first | (with_reducible exact HW.out) | (with_reducible apply bl_drewN) | (with_reducible apply bl_alloc) | ((with_reducible refine bl_set ?_ _ ?_); rotate_left; focus (first | exact Nat.le_refl _ | (simp; done) | (simp; omega)))))
    · (repeat (first | (with_reducible exact HW.out) | (with_reducible apply bl_drewN) | (with_reducible apply bl_alloc) | ((with_reducible refine bl_set ?_ _ ?_); rotate_left; focus (first | exact Nat.le_refl _ | (simp; done) | (simp; omega)))))
  have hcs := check_sq q0
  have hc := recv_n (p := p) q0
  rw [q0]
  by_cases q1 : f.fr = p.nm
  case neg =>
    rw [if_pos q1] at hc
    have HC := Lib.hid hc
    have hq : (f.fr.toList == p.nm.toList) = false := by rw [str_eq]; simp [q1]
    clear q0 q1 hc
    go_wp2_with (fail)
    refine bodyPost_ret (v := .tuple #[.agg #[.string p.nm, .int .i64 p.out, .int .i64 p.inn, .slice aw p.wt.length cw, .slice ao p.ours.length co, .slice at' p.thr.length ct], .int .i64 30]) (by simp [results, Tryz.results55, go_sem, d0, d1, d2, d3, d4, d5]) rfl ⟨pes_mk HC.out (parOk_stepS HPS.out HSS.out ?_), ?_⟩
    · (repeat (first | (with_reducible exact HW.out) | (with_reducible apply bl_drewN) | (with_reducible apply bl_alloc) | ((with_reducible refine bl_set ?_ _ ?_); rotate_left; focus (first | exact Nat.le_refl _ | (simp; done) | (simp; omega)))))
    · (repeat (first | (with_reducible exact HW.out) | (with_reducible apply bl_drewN) | (with_reducible apply bl_alloc) | ((with_reducible refine bl_set ?_ _ ?_); rotate_left; focus (first | exact Nat.le_refl _ | (simp; done) | (simp; omega)))))
  have hq : (f.fr.toList == p.nm.toList) = true := by rw [str_eq]; simp [q1]
  rw [if_neg (by simp [q1])] at hc
  by_cases q2 : p.inn < f.sq
  · rw [if_pos q2] at hc
    have HC := Lib.hid hc
    clear q0 q1 hc
    go_wp2_with (fail)
    refine bodyPost_ret (v := .tuple #[.agg #[.string p.nm, .int .i64 p.out, .int .i64 p.inn, .slice aw p.wt.length cw, .slice ao p.ours.length co, .slice at' p.thr.length ct], .int .i64 31]) (by simp [results, Tryz.results55, go_sem, d0, d1, d2, d3, d4, d5]) rfl ⟨pes_mk HC.out (parOk_stepS HPS.out HSS.out ?_), ?_⟩
    · (repeat (first | (with_reducible exact HW.out) | (with_reducible apply bl_drewN) | (with_reducible apply bl_alloc) | ((with_reducible refine bl_set ?_ _ ?_); rotate_left; focus (first | exact Nat.le_refl _ | (simp; done) | (simp; omega)))))
    · (repeat (first | (with_reducible exact HW.out) | (with_reducible apply bl_drewN) | (with_reducible apply bl_alloc) | ((with_reducible refine bl_set ?_ _ ?_); rotate_left; focus (first | exact Nat.le_refl _ | (simp; done) | (simp; omega)))))
  have hq2 : decide (p.inn < f.sq) = false := by simpa using q2
  rw [if_neg q2] at hc
  by_cases q3 : f.sq = p.inn
  case neg =>
    rw [if_pos q3] at hc
    have HC := Lib.hid hc
    have hq3 : (f.sq == p.inn) = false := by simpa using q3
    have hq4 : f.sq < p.inn := by omega
    clear q0 q1 q2 q3 hc
    go_wp2_with (fail)
    refine bodyPost_ret (v := .tuple #[.agg #[.string p.nm, .int .i64 p.out, .int .i64 p.inn, .slice aw p.wt.length cw, .slice ao p.ours.length co, .slice at' p.thr.length ct], .int .i64 0]) (by simp [results, Tryz.results55, go_sem, d0, d1, d2, d3, d4, d5]) rfl ⟨pes_mk HC.out (parOk_stepS HPS.out HSS.out ?_), ?_⟩
    · (repeat (first | (with_reducible exact HW.out) | (with_reducible apply bl_drewN) | (with_reducible apply bl_alloc) | ((with_reducible refine bl_set ?_ _ ?_); rotate_left; focus (first | exact Nat.le_refl _ | (simp; done) | (simp; omega)))))
    · (repeat (first | (with_reducible exact HW.out) | (with_reducible apply bl_drewN) | (with_reducible apply bl_alloc) | ((with_reducible refine bl_set ?_ _ ?_); rotate_left; focus (first | exact Nat.le_refl _ | (simp; done) | (simp; omega)))))
  have hq3 : (f.sq == p.inn) = true := by simpa using q3
  have hq4 : decide (f.sq < p.inn) = false := by simp; omega
  rw [if_neg (by simp [q3])] at hc
  have hts := HS.out.thr
  by_cases q4 : 1024 < p.thr.length + f.rs.length
  · rw [if_pos q4] at hc
    have HC := Lib.hid hc
    have hq5 : (1024 : Int) < (p.thr.length : Int) + (f.rs.length : Int) := by omega
    have hq6 : IntKind.i64.wrap ((p.thr.length : Int) + (f.rs.length : Int)) = (p.thr.length : Int) + (f.rs.length : Int) := wrap_in (by omega) (by omega)
    clear q0 q1 q2 q3 q4 hc
    go_wp2_with (fail)
    refine bodyPost_ret (v := .tuple #[.agg #[.string p.nm, .int .i64 p.out, .int .i64 p.inn, .slice aw p.wt.length cw, .slice ao p.ours.length co, .slice at' p.thr.length ct], .int .i64 3]) (by simp [results, Tryz.results55, go_sem, d0, d1, d2, d3, d4, d5]) rfl ⟨pes_mk HC.out (parOk_stepS HPS.out HSS.out ?_), ?_⟩
    · (repeat (first | (with_reducible exact HW.out) | (with_reducible apply bl_drewN) | (with_reducible apply bl_alloc) | ((with_reducible refine bl_set ?_ _ ?_); rotate_left; focus (first | exact Nat.le_refl _ | (simp; done) | (simp; omega)))))
    · (repeat (first | (with_reducible exact HW.out) | (with_reducible apply bl_drewN) | (with_reducible apply bl_alloc) | ((with_reducible refine bl_set ?_ _ ?_); rotate_left; focus (first | exact Nat.le_refl _ | (simp; done) | (simp; omega)))))
  rw [if_neg q4] at hc
  have HC := Lib.hid hc
  have hq5 : decide ((1024 : Int) < (p.thr.length : Int) + (f.rs.length : Int)) = false := by simp; omega
  have hq6 : IntKind.i64.wrap ((p.thr.length : Int) + (f.rs.length : Int)) = (p.thr.length : Int) + (f.rs.length : Int) := wrap_in (by omega) (by omega)
  have hq7 : IntKind.i64.wrap (p.inn + 1) = p.inn + 1 := wrap_in (by omega) (by omega)
  have hin : 1 ≤ p.inn ∧ p.inn ≤ 2147483648 := by omega
  clear q0 q1 q2 q3 hc
  go_wp2_with (fail)
  refine (copiedP_any p _ _ _ _ (HP.out.step HW.out) HS.out).mono ?_
  rintro e w2 ⟨vw', vo', vt', rfl, hown, hb2⟩
  obtain ⟨⟨aw', cw', rfl, hw1', hw2'⟩, ⟨ao', co', rfl, ho1', ho2'⟩, ⟨at2, ct2, rfl, ht1', ht2'⟩⟩ := hown.form
  unfold maxLen at hw2' ho2' ht2'
  have HOW := Lib.hid hown
  have HW2 := Lib.hid (bl_trans HW.out hb2)
  have hsz2 : w1.heap.size ≤ w2.heap.size := hb2.size
  have m0 := Go.Tw.Below.at_old hb2 HN0.out
  have m1 := Go.Tw.Below.at_old hb2 HN1.out
  have m2 := Go.Tw.Below.at_old hb2 HN2.out
  clear c0 c1 c2 c3 c4 c5 cf f0 f1 f2 f3 ff d0 d1 d2 d3 d4 d5 df hown hb2 hw1 hw2 ho1 ho2 ht1 ht2
  obtain ⟨c0, c1, c2, c3, c4, c5, cf⟩ := blk6' m0
  obtain ⟨f0, f1, f2, f3, ff⟩ := blk4 m1
  obtain ⟨d0, d1, d2, d3, d4, d5, df⟩ := blk6' m2
  have ne1 : ¬ w.heap.size = w2.heap.size := by omega
  have ne2 : ¬ w2.heap.size = w.heap.size := by omega
  have c2b : (w2.alloc (.cells #[.string p.nm, .int .i64 p.out, .int .i64 p.inn, .slice aw' p.wt.length cw', .slice ao' p.ours.length co', .slice at2 p.thr.length ct2] 29)).cell? ⟨w.heap.size, 2, none⟩ = some (.int .i64 p.inn) := ((bl_alloc (Below.refl w2.heap.size w2) _).cell (p := ⟨w.heap.size, 2, none⟩) (by show w.heap.size < w2.heap.size; omega)).trans c2
  go_upto_region 14 with (fail)
  obtain ⟨wb, hwb⟩ : ∃ wb, w2.alloc (.cells #[.string p.nm, .int .i64 p.out, .int .i64 (p.inn + 1), .slice aw' p.wt.length cw', .slice ao' p.ours.length co', .slice at2 p.thr.length ct2] 29) = wb := ⟨_, rfl⟩
  have hb0 := alloc1_0 w2 (.cells #[.string p.nm, .int .i64 p.out, .int .i64 (p.inn + 1), .slice aw' p.wt.length cw', .slice ao' p.ours.length co', .slice at2 p.thr.length ct2] 29)
  rw [hwb] at hb0 ⊢
  have hne : ∀ k, k < w2.heap.size → wb.heap[k]? = w2.heap[k]? := fun k hk => by rw [← hwb]; exact Below.heap_alloc _ _ _ hk
  have hszb : wb.heap.size = w2.heap.size + 1 := by rw [← hwb]; simp
  have HBX := Lib.hid hb0
  have HWB := Lib.hid (show Below w.heap.size w wb by rw [← hwb]; exact bl_alloc HW2.out _)
  have HFB := Lib.hid ((hne (w.heap.size + 1) (by omega)).trans m1)
  have HRB := Lib.hid ((hne (w.heap.size + 1 + 1) (by omega)).trans m2)
  have HNE := Lib.hid (show ∀ k, w1.heap.size ≤ k → k < w2.heap.size → wb.heap[k]? = w2.heap[k]? from fun k _ h2 => hne k h2)
  have hszb' : w2.heap.size ≤ wb.heap.size := by omega
  clear hwb hne m0 m1 m2 hb0
  clear c0 c1 c2 c3 c4 c5 cf f0 f1 f2 f3 ff d0 d1 d2 d3 d4 d5 df
  obtain ⟨c0, c1, c2, c3, c4, c5, cf⟩ := blk6' HBX.out
  obtain ⟨f0, f1, f2, f3, ff⟩ := blk4 HFB.out
  have HOT := Lib.hid (OwnSl.on HOW.out.ownT flatRec HNE.out hszb')
  have HFR := Lib.hid (HF.out.rs.keep (fun _ h => h) (.of_below HWB.out))
  have HLT := Lib.hid (show ∀ k, (Value.slice at2 p.thr.length ct2).ownBlock = some k → w1.heap.size ≤ k ∧ k < w2.heap.size from HOW.out.ownT.own_lt)
  go_wp2_with (
    at_builtin
    refine wpList_append_sl (.tmp 48) (.tmp 50) rfl 27 rfl slRec rfl HOT.out rfl HFR.out (fun k (hk : k < w.heap.size) => ⟨by omega, fun e => by have := (HLT.out k e.symm).1; omega⟩) (by omega) (by unfold maxLen; omega) (by omega) ?_
    intro v' w3 ho hg hor
    obtain ⟨a3, c3', e3, -⟩ := id ho.form
    rw [List.length_append] at e3
    subst e3
    have HO3 := Lib.hid ho
    have HG3 := Lib.hid hg
    have HOR := Lib.hid hor
    have g0 := (hg.block w2.heap.size (by omega) (fun e => by have := HLT.out _ e.symm; omega)).trans HBX.out
    have g2 := (hg.block (w.heap.size + 1 + 1) (by omega) (fun e => by have := HLT.out _ e.symm; omega)).trans HRB.out
    obtain ⟨x0, x1, x2, x3, x4, x5, xf⟩ := blk6' g0
    obtain ⟨d0, d1, d2, d3, d4, d5, df⟩ := blk6' g2
    have hsz3 := hg.size
    have HW3 := Lib.hid (HWB.out.grown hg (by omega) (fun k e => by have := HLT.out k e; omega))
    clear ho hg hor g0 g2)
  have HFIN := Lib.hid (OwnP.pushT (n := p.inn + 1) HOW.out HNE.out hszb' HG3.out HO3.out HOR.out HP.out (by unfold i64ok; omega))
  refine bodyPost_ret (v := .tuple #[.agg #[.string p.nm, .int .i64 p.out, .int .i64 (p.inn + 1), .slice aw' p.wt.length cw', .slice ao' p.ours.length co', .slice a3 (p.thr.length + f.rs.length) c3'], .int .i64 0]) (by simp [results, Tryz.results55, go_sem, d0, d1, d2, d3, d4, d5]) rfl ⟨pes_mk HC.out (HFIN.out.keep (fun k hk => ?_) ?_), ?_⟩
  · refine .inr ⟨by rcases hk.1 with q | q <;> omega, ?_⟩
    have := hk.2
    simp
    exact this
  · (repeat (first | (with_reducible exact SameOn.refl _ _) | (with_reducible exact SameOn.refl _ _) | ((with_reducible refine SameOn.set ?_ ?_ _); rotate_left; focus (first | (simp; done) | (simp; omega))) | (with_reducible apply SameOn.drewN)))
  · (repeat (first | (with_reducible exact HW3.out) | (with_reducible apply bl_drewN) | (with_reducible apply bl_alloc) | ((with_reducible refine bl_set ?_ _ ?_); rotate_left; focus (first | exact Nat.le_refl _ | (simp; done) | (simp; omega)))))
theorem recvR_any (p : Par) (f : Fil) (vw vo vt vf : Value) (w : World) (h : ParOk (· < w.heap.size) w p vw vo vt) (hs : SmallP p) (hf : FilOk (· < w.heap.size) w f vf) :
    Calls Tryz.prog 55 #[.agg #[.string p.nm, .int .i64 p.out, .int .i64 p.inn, vw, vo, vt], .agg #[.string f.fr, .string f.to, .int .i64 f.sq, vf]] w fun e w' => PE w' e (recvC p f) ∧ Below w.heap.size w w' :=
  (recvR_gen (· < w.heap.size) p f vw vo vt vf w h (fun _ hk => hk) hs hf).mono fun _ _ ⟨h1, h2⟩ => ⟨h1.pe h2, h2⟩
end Go.Proofs.YtmjbbpappigngaaGreat
