/-
  Layer 14 (group): the walk of Frames.
-/
import Derived.Test.YtelnnjofccldgaaGreatDoorGrpI0
import Derived.RangeFuncBox
namespace Go.Proofs.YtelnnjofccldgaaGreatDoor
open Go.RowKit Go.Tw Go.Tw.Ord Go.Tw.Grp Go.Sort
theorem frames_call (av : Option Addr) (n c : Nat) (g : Int) (w : World) :
    Calls Tryz.prog 46 #[.slice av n c, .int .i64 g] w fun e w' => e = .returned (.func (.func 78) #[] #[.pointer (some ⟨w.heap.size, 0, none⟩), .pointer (some ⟨w.heap.size + 1, 0, none⟩)]) ∧ w' = (w.alloc (.cells #[.slice av n c] 65)).alloc (.cells #[.int .i64 g] 3) := by
  go_enter Tryz.func46, Tryz.ntmps46
  go_wp2
  go_ret
  exact ⟨rfl, rfl⟩
/-- an own slice of frames, its headers told -/
def OwnH (F : List Nat) (W : World) (ov : Value) (fs : List (List Seen)) (hs : List Value) : Prop :=
  ∃ css Fs, W.ownsRow 0 65 1 ov fs.length css.flatten ∧ AllOwn tFrm W Fs css fs ∧ F = ov.ownBlock.toList ++ Fs.flatten ∧ css.flatten = hs
theorem OwnH.own {F : List Nat} {W : World} {ov : Value} {fs : List (List Seen)} {hs : List Value} (h : OwnH F W ov fs hs) : OwnL tFrm 65 F W ov fs := by
  obtain ⟨css, Fs, h1, h2, h3, -⟩ := h
  exact ⟨css, Fs, h1, h2, h3⟩
theorem OwnH.of {F : List Nat} {W : World} {ov : Value} {fs : List (List Seen)} (h : OwnL tFrm 65 F W ov fs) : ∃ hs, OwnH F W ov fs hs := by
  obtain ⟨css, Fs, h1, h2, h3⟩ := h
  exact ⟨_, css, Fs, h1, h2, h3, rfl⟩
theorem ownsRow_keep {W W' : World} {base : Nat} {e : TypeId} {size : Nat} {v : Value} {k : Nat} {xs : List Value} (h : W.ownsRow base e size v k xs) (hw : ∀ b, v.ownBlock = some b → W'.heap[b]? = W.heap[b]?) : W'.ownsRow base e size v k xs := by
  refine ⟨h.1, ?_⟩
  rcases h.2 with h | ⟨g, cap, cur, rfl, hb, hgg, rest⟩
  · exact .inl h
  · exact .inr ⟨g, cap, cur, rfl, hb, (hw g rfl).trans hgg, rest⟩
theorem OwnH.keep {F : List Nat} {W W' : World} {ov : Value} {fs : List (List Seen)} {hs : List Value} (h : OwnH F W ov fs hs) (hw : ∀ b, b ∈ F → W'.heap[b]? = W.heap[b]?) : OwnH F W' ov fs hs := by
  obtain ⟨css, Fs, h1, h2, h3, h4⟩ := h
  subst h3
  exact ⟨css, Fs, ownsRow_keep h1 (fun b hb => hw b (by rw [hb]; simp)), h2.keep (fun b hb => hw b (List.mem_append_right _ hb)), rfl, h4⟩
theorem OwnH.len {F : List Nat} {W : World} {ov : Value} {fs : List (List Seen)} {hs : List Value} (h : OwnH F W ov fs hs) : hs.length = fs.length := by
  obtain ⟨css, Fs, h1, h2, h3, h4⟩ := h
  have := h1.1
  rw [h4] at this
  simpa using this
theorem OwnH.cell {F : List Nat} {W : World} {rb _n cap : Nat} {fs : List (List Seen)} {hs : List Value} (h : OwnH F W (.slice (some ⟨rb, 0, none⟩) fs.length cap) fs hs) {k : Nat} (hk : k < fs.length) : W.cell? ⟨rb, k, none⟩ = hs[k]? := by
  obtain ⟨css, Fs, h1, h2, h3, h4⟩ := h
  rw [← h4]
  exact h1.cellAt k (by omega)
/-- the headers laid in another row of one's own -/
theorem OwnH.moved {F : List Nat} {W : World} {ov v2 : Value} {fs : List (List Seen)} {hs : List Value} {B : Nat} (h : OwnH F W ov fs hs) (nd : F.Nodup) (hB : ∀ b ∈ F, B ≤ b) (hr : W.ownsRow B 65 1 v2 fs.length hs) (hd : ∀ b, v2.ownBlock = some b → b ∉ F) : NewL tFrm 65 B W v2 fs := by
  obtain ⟨css, Fs, h1, h2, rfl, h4⟩ := h
  have hr0 : W.ownsRow 0 65 1 v2 fs.length hs := ⟨hr.1, hr.2.imp id fun ⟨g, cap, cur, r1, r2, r⟩ => ⟨g, cap, cur, r1, Nat.zero_le _, r⟩⟩
  refine ⟨v2.ownBlock.toList ++ Fs.flatten, ⟨css, Fs, by rw [h4]; exact hr0, h2, rfl⟩, ?_, fun b hb => ?_⟩
  · rw [List.nodup_append] at nd ⊢
    refine ⟨by cases v2.ownBlock <;> simp, nd.2.1, fun a ha b hb e => ?_⟩
    subst e
    exact hd a (by simpa using ha) (List.mem_append_right _ hb)
  · rcases List.mem_append.1 hb with hb | hb
    · exact (hr.lt b (by simpa using hb)).1
    · exact hB b (List.mem_append_right _ hb)
/-- a value of one cell, whatever it is -/
def tVal : Ty Value where
  sz := 1
  is := fun _ _ cs x => cs = [x] ∧ x.oneCell' = true
  len := fun h => by rw [h.1]; rfl
  keep := fun h _ _ => h
  one := fun h u hu => by rw [h.1] at hu; simp at hu; subst hu; exact h.2
  own := fun F _ cs x => F = [] ∧ cs = [x] ∧ x.oneCell' = true
  own_is := fun h => h.2
  own_keep := fun h _ => h
  own_lt := fun h b hb => by rw [h.1] at hb; cases hb
theorem vals_flat {w : World} : ∀ {Fs : List (List Nat)} {css : List (List Value)} {hs : List Value}, AllOwn tVal w Fs css hs → Fs.flatten = [] ∧ css.flatten = hs
  | [], [], [], _ => ⟨rfl, rfl⟩
  | F :: Fs, c :: css, x :: hs, h => by
    obtain ⟨h1, h2⟩ := vals_flat h.2
    obtain ⟨rfl, rfl, -⟩ := h.1
    exact ⟨by simpa using h1, by simp [h2]⟩
  | [], [], _ :: _, h => h.elim
  | [], _ :: _, _, h => h.elim
  | _ :: _, [], _, h => h.elim
  | _ :: _, _ :: _, [], h => h.elim
theorem OwnL.vals {F : List Nat} {e : TypeId} {w : World} {v : Value} {hs : List Value} (h : OwnL tVal e F w v hs) : F = v.ownBlock.toList ∧ w.ownsRow 0 e 1 v hs.length hs := by
  obtain ⟨css, Fs, h1, h2, h3⟩ := h
  obtain ⟨e1, e2⟩ := vals_flat h2
  rw [e1, List.append_nil] at h3
  exact ⟨h3, by rw [← e2]; rw [e2]; have := h1; rw [e2] at this; exact this⟩
theorem ownsRow_from {w : World} {e : TypeId} {size : Nat} {v : Value} {k B : Nat} {xs : List Value} (h : w.ownsRow 0 e size v k xs) (hB : ∀ b, v.ownBlock = some b → B ≤ b) : w.ownsRow B e size v k xs := by
  refine ⟨h.1, ?_⟩
  rcases h.2 with h | ⟨g, cap, cur, rfl, hb, rest⟩
  · exact .inl h
  · exact .inr ⟨g, cap, cur, rfl, hB g rfl, rest⟩
theorem slVal : SlT Tryz.prog 83 65 tVal.sz 24 := slFrm
theorem wpListIn_append_L {α : Type} {T : Ty α} {F : Fence} {n : Nat} {P : Program} {e : TypeId} {G : List Nat} {w : World} {v : Value} {l : List α} {ops : Array Oper} {rest : List Oper} {o : Oper} {a : Act} {Q : Exit → Act → World → Prop} (s y : Operand) (hgd : o.guard = none) (t : TypeId)
    (ho : o.op = .call { callee := .builtin .append, args := #[s, y], argTypes := #[t, t] }) {e' : TypeId} {bytes : Nat} (hT : SlT P t e T.sz bytes) {cs : Array Value} {F1 : List Nat} {x : α} (hs : a.eval s = v) (hown : OwnL T e G w v l) (nd : G.Nodup)
    (hy : a.eval y = .slice (some ⟨w.heap.size, 0, none⟩) 1 1) (hx : T.own F1 w cs.toList x) (nd1 : F1.Nodup) (hd : ∀ b ∈ F1, b ∉ G)
    (hbytes : (l.length + 1) * bytes ≤ 140737488355328) (h63 : l.length + 1 ≤ maxLen)
    (h : ∀ v' w' F', OwnL T e F' w' v' (l ++ [x]) → F'.Nodup → (∀ b ∈ F', b ∈ G ∨ b ∈ F1 ∨ w.heap.size < b) → (w.alloc (.cells cs e')).grownBy w' v.ownBlock → wpListIn F n P ops Q rest (a.put o.dst v') w') : wpListIn F n P ops Q (o :: rest) a (w.alloc (.cells cs e')) := by
  refine wpListIn_plain hgd fun K hK => ?_
  obtain ⟨v', w', F', hr, h2, h3, h4, h5⟩ := run_append_L (P := P) (ty := o.type) (e' := e') hT hown nd hx nd1 hd hbytes h63
  unfold Oper.wpIn
  refine ⟨?_, ?_⟩
  · simp [Oper.about, ho, resolve, Target.leads, Sem.run_pure]
  · rw [Oper.semAt_plain F _ _ (by rw [ho]; intro c hc'; cases hc')]
    simp only [execOp, ho, resolve, invoke, builtin, Sem.run_bind, Sem.run_pure, Result.andThen_ok, List.map_toArray, List.map_cons, List.map_nil, hs, hy, hr]
    exact hK _ _ (h v' w' F' h2 h3 h4 h5)
/-- one round of a range over a func, by the walk of its body -/
theorem yieldAt_round {F : Fence} {m : Nat} {P : Program} {l : Nat} {rec : Loop} {W : World} {hv : Value} {R : Ending → World → Prop} {asg bd : Code} {tm : Array Value} {p : Tmp} (hfn : F.fn rec.fn) (hl : W.heap[l]? = some (.loop rec)) (hr : rec.state = .ready) (hpn : rec.pending = none)
    (has : rec.assign = asg) (hbd : rec.body = bd) (htm : rec.tmps = tm) (hps : rec.params = #[p])
    (h : ∀ bz, asg.wpIn (F.inRound l) m P (Exit.then (fun a1 w1 => w1 = W ∧ bd.wpIn (F.inRound l) m P (fun e _ W3 => e = .normal ∧ W3.heap[l]? = some bz ∧ R (.returned (.bool true)) (W3.putObj l (.loop rec))) a1 (W.putObj l bz)) (fun _ _ _ => False))
      { tmps := tm.setIfInBounds p hv, defers := [] } W) : YieldAt F m P l #[hv] W R := by
  refine ⟨rec.fn, _, rec.assign, rec.body, run_yield hl (by rw [hps]; rfl), roundIn_of_wpIn hfn ?_⟩
  rw [has, hbd, htm, hps]
  have ez : ((#[p] : Array Tmp).zip #[hv]).foldl (fun t (p, v) => t.setIfInBounds p v) tm = tm.setIfInBounds p hv := by simp
  rw [ez]
  refine wpIn_mono (h (.loop { rec with state := .busy })) ?_
  rintro e a1 w1 h1
  cases e with
  | normal =>
    obtain ⟨rfl, h2⟩ := h1
    refine ⟨_, run_beginRound hl hr, wpIn_mono h2 ?_⟩
    rintro e a3 W3 ⟨rfl, h3, h4⟩
    refine ⟨_, _, run_endRound none h3, ?_⟩
    have e : ({ ({ rec with state := .busy } : Loop) with state := if (none : Option Code).isNone then LoopState.ready else LoopState.done, pending := none } : Loop) = rec := by
      cases rec
      simp at hr hpn ⊢
      exact ⟨hr.symm, hpn.symm⟩
    rw [e]
    exact h4
  | ret => exact h1.elim
  | exit id => exact h1.elim
  | goto t => exact h1.elim
  | panic ch => exact h1.elim
  | outgrown => exact h1.elim
/-- a range over a func, by the iterator's contract at the loop's own record -/
theorem wpIn_rangeFunc_J {F : Fence} {n : Nat} {P : Program} {g : Operand} {ps : Array Tmp} {assign body : Code} {Q : Exit → Act → World → Prop} {a : Act} {w : World} {gf : Nat} {lb : Array Value}
    (hro : F.round = none) (h1 : 1 ≤ n) (hg : a.eval g = .func (.func gf) #[] lb) (hFg : F.fn gf) (eg : ∀ args w, (callFunc gf args).run P w = .ok (.enter gf args) w)
    (hit : ∀ fn, F.fn fn → ∀ rec : Loop, rec = { state := .ready, pending := none, fn := fn, tmps := a.tmps, params := ps, assign := assign, body := body, defers := w.heap.size } → ∀ W1, W1 = (w.alloc (.deferred (some []))).alloc (.loop rec) →
      CallsIn F (n - 1) P gf (#[.func (.yield (w.heap.size + 1)) #[] #[]] ++ lb) W1 fun e W2 => (∃ v, e = .returned v) ∧ W2.heap[w.heap.size + 1]? = some (.loop rec) ∧
        Q .normal { a with defers := { target := .collected w.heap.size, args := #[] } :: a.defers } (W2.putObj (w.heap.size + 1) (.loop { rec with state := .exhausted }))) :
    (Code.rangeFunc g ps assign body).wpIn F n P Q a w := by
  refine wpIn_rangeFunc ?_
  intro fn hfn
  rw [hro]
  obtain ⟨rec, hrec⟩ : ∃ rec : Loop, rec = { state := .ready, pending := none, fn := fn, tmps := a.tmps, params := ps, assign := assign, body := body, defers := w.heap.size } := ⟨_, rfl⟩
  obtain ⟨W1, hW1⟩ : ∃ W1, W1 = (w.alloc (.deferred (some []))).alloc (.loop rec) := ⟨_, rfl⟩
  refine ⟨w.heap.size + 1, [{ target := .collected w.heap.size, args := #[] }], W1, { target := .fn (.func gf) lb, args := #[.func (.yield (w.heap.size + 1)) #[] #[]] }, W1, gf,
    #[.func (.yield (w.heap.size + 1)) #[] #[]] ++ lb, W1, ?_, ?_, ?_, ?_, fun _ => h1, ?_⟩
  · rw [hW1, hrec]; exact run_enterLoop_outer _ _ _ _ _
  · simp only [resolve, hg]
    simp [go_sem]
  · intro f' hf'; simp [Target.leads] at hf'; subst hf'; exact hFg
  · simp [invoke, go_sem, eg]
  · refine (hit fn hfn rec hrec W1 hW1).mono ?_
    rintro e W2 ⟨⟨v, rfl⟩, hl, hQ⟩
    have hpn : rec.pending = none := by rw [hrec]
    have hne : rec.state ≠ .busy := by rw [hrec]; simp
    exact ⟨none, _, (run_endLoop (P := P) hl hne).trans (congrArg (fun p => Result.ok p _) hpn), hQ⟩
/-- between two rounds: $ the iterator's frames ov, what has come v2, the loop's record -/
def FrJ (n0 n1 bo l : Nat) (w : World) (rec : Loop) (fs : List (List Seen)) (ov : Value) (k : Nat) (W : World) : Prop :=
  ∃ F hs v2 F2, OwnH F W ov fs hs ∧ F.Nodup ∧ (∀ b ∈ F, n1 ≤ b) ∧ Boxed W bo 83 v2 ∧ OwnL tVal 65 F2 W v2 (hs.take k) ∧ F2.Nodup ∧ (∀ b ∈ F2, n1 ≤ b ∧ b ∉ F) ∧ Below n0 w W ∧
    W.heap[l]? = some (.loop rec) ∧ W.heap[l - 1]? = some (.deferred (some []))
theorem putObj_other {W : World} {l k : Nat} (o : Obj) (h : k ≠ l) : (W.putObj l o).heap[k]? = W.heap[k]? := World.putObj_heap_other h
theorem below_put {n0 : Nat} {w W : World} {l : Nat} (o : Obj) (h : Below n0 w W) (hn : n0 ≤ W.heap.size) (hl : n0 ≤ l) : Below n0 w (W.putObj l o) := h.grown (grownBy_putObj' W l o) hn (fun k e => by cases e; exact hl)
attribute [local go_sem] Oper.semAt_some in
set_option maxRecDepth 100000 in
set_option maxHeartbeats 8000000 in
theorem Frames_any (l : List Seen) (g : Int) (v : Value) (w : World) (h : SlIs tSeen (· < w.heap.size) w v l) (hl : l.length < 60) (hg : i64ok g) :
    Calls Tryz.prog 27 #[v, .int .i64 g] w fun e w' => (∃ v', e = .returned v' ∧ NewL tFrm 65 w.heap.size w' v' (framesC g l)) ∧ Below w.heap.size w w' := by
  obtain ⟨av, cv, _, _, rfl, -, -, -⟩ := id h
  have HH := Lib.hid h
  have HL := Lib.hid hl
  have HG := Lib.hid hg
  clear h hl hg
  refine callsIn_wide.1 (callsIn_of_wp_marks (n := 8) Tryz.func27 rfl trivial ?_ rfl)
  simp only [Tryz.ntmps27, List.size_toArray, List.length_cons, List.length_nil, Nat.reduceAdd, Nat.reduceSub, Array.replicate_succ, Array.replicate_zero, List.push_toArray, List.append_toArray, List.nil_append, List.cons_append]
  gi_wp2
  refine ⟨trivial, (callsIn_wide.2 (frames_call av l.length cv g _)).mono ?_⟩
  rintro e w' ⟨rfl, rfl⟩
  gi_wp2
  have hB0 : Below w.heap.size w (((w.alloc (.cells #[.slice none 0 0] 83)).alloc (.cells #[.slice av l.length cv] 65)).alloc (.cells #[.int .i64 g] 3)) := bl_alloc (bl_alloc (bl_alloc (Below.refl _ _) _) _) _
  have bO := ((Boxed.new w 83 (.slice none 0 0)).alloc (.cells #[.slice av l.length cv] 65)).alloc (.cells #[.int .i64 g] 3)
  have bL := (Boxed.new (w.alloc (.cells #[.slice none 0 0] 83)) 65 (.slice av l.length cv)).alloc (.cells #[.int .i64 g] 3)
  have bG := Boxed.new ((w.alloc (.cells #[.slice none 0 0] 83)).alloc (.cells #[.slice av l.length cv] 65)) 3 (.int .i64 g)
  have hz : (((w.alloc (.cells #[.slice none 0 0] 83)).alloc (.cells #[.slice av l.length cv] 65)).alloc (.cells #[.int .i64 g] 3)).heap.size = w.heap.size + 3 := by simp
  simp only [World.size_alloc] at bL bG
  have HB0 := Lib.hid hB0
  have HBO := Lib.hid bO
  have HBL := Lib.hid bL
  have HBG := Lib.hid bG
  clear hB0 bO bL bG
  have HZ := Lib.hid hz
  clear hz
  generalize (((w.alloc (.cells #[.slice none 0 0] 83)).alloc (.cells #[.slice av l.length cv] 65)).alloc (.cells #[.int .i64 g] 3)) = w0 at HB0 HBO HBL HBG HZ ⊢
  refine wpIn_rangeFunc_J rfl (by decide) (gf := 78) rfl trivial (enters_of Tryz.func78 (by kernel_rfl) rfl) ?_
  intro fn hfn rec hrec W1 hW1
  have hs1 : W1.heap.size = w0.heap.size + 2 := by rw [hW1]; simp
  have hz := HZ.out
  have hb01 : Below w0.heap.size w0 W1 := by rw [hW1]; exact bl_alloc (bl_alloc (Below.refl _ _) _) _
  have hBW : Below w.heap.size w W1 := HB0.out.trans (hb01.mono HB0.out.size)
  have h1 := SlIs.step HH.out hBW
  have bO1 : Boxed W1 _ _ _ := (hb01.block _ (by omega)).trans HBO.out
  have bL1 : Boxed W1 _ _ _ := (hb01.block _ (by omega)).trans HBL.out
  have bG1 : Boxed W1 _ _ _ := (hb01.block _ (by omega)).trans HBG.out
  have hL1 : W1.heap[w0.heap.size + 1]? = some (.loop rec) := by rw [hW1]; have := World.alloc_heap_new (w0.alloc (.deferred (some []))) (.loop rec); rwa [World.size_alloc] at this
  have hD1 : W1.heap[w0.heap.size + 1 - 1]? = some (.deferred (some [])) := by rw [hW1]; exact (Below.heap_alloc _ _ _ (by simp)).trans (World.alloc_heap_new w0 _)
  refine callsIn_wide.2 ((frames1_any (w0.heap.size + 1) l g (.slice av l.length cv) (w.heap.size + 1) (w.heap.size + 2) (FrJ w.heap.size (w0.heap.size + 2) w.heap.size (w0.heap.size + 1) w rec (framesC g l)) W1 ?_ HL.out HG.out ?_ ?_ ?_ ?_ ?_).mono ?_)
  · exact h1
  · exact bL1.cell
  · exact bG1.cell
  · rintro ov W0 ⟨F, o1, o2, o3⟩ hb
    obtain ⟨hs, hH⟩ := OwnH.of o1
    exact ⟨F, hs, .slice none 0 0, [], hH, o2, fun b hb' => by have := o3 b hb'; omega, (hb.block _ (by omega)).trans bO1, by rw [List.take_zero]; exact OwnL.nil, List.nodup_nil, fun b hb' => absurd hb' List.not_mem_nil, hBW.trans (hb.mono hBW.size), (hb.block _ (by omega)).trans hL1, (hb.block _ (by omega)).trans hD1⟩
  · rintro ov k W ⟨F, hs, v2, F2, hH, nd, hF, -⟩
    exact ⟨F, hH.own, nd, fun b hb => by have := hF b hb; omega⟩
  · rintro m ov k W rb cap hv ⟨F, hs, v2, F2, hH, nd, hF, hbx, ho2, nd2, hF2, hbw, hl, hd⟩ hk rfl hc
    have hhk : hs[k]? = some hv := (hH.cell (_n := 0) hk).symm.trans hc
    obtain ⟨_, cap', cs, Fi, hv', hcap1, hcap2, he, -, -⟩ := hH.own.upd nd k hk
    injection hv' with q1 q2 q3
    obtain rfl : rb = _ := congrArg Addr.block (Option.some.inj q1)
    subst q3
    clear q1 q2
    obtain ⟨hh, rfl, hfo⟩ := he.own
    have hcell : W.cell? ⟨rb, k, none⟩ = some hh := by have := he.cell 0 (by decide); simpa [tFrm, Ty.list] using this
    obtain rfl : hh = hv := by rw [hc] at hcell; exact (Option.some.inj hcell).symm
    obtain ⟨fa, fc, rfl, -⟩ := hfo.form
    clear hfo he
    refine yieldAt_round trivial hl (by rw [hrec]) (by rw [hrec]) (congrArg Loop.assign hrec) (congrArg Loop.body hrec) (congrArg Loop.tmps hrec) (congrArg Loop.params hrec) ?_
    intro bz
    have hhk' : hs.take (k + 1) = hs.take k ++ [.slice fa (framesC g l)[k].length fc] := by
      obtain ⟨h1, h2⟩ := List.getElem?_eq_some_iff.1 hhk
      rw [List.take_succ_eq_append_getElem h1, h2]
    generalize (framesC g l)[k].length = n9 at hhk' hhk hcell hc ⊢
    have hFl := hH.own.lt
    have hF2l := ho2.lt
    have hll := (Array.getElem?_eq_some_iff.1 hl).1
    have hne : ∀ b, b ∈ F ∨ b ∈ F2 → b ≠ w0.heap.size + 1 := fun b hb => by
      rcases hb with hb | hb
      · have := hF _ hb; omega
      · have := (hF2 _ hb).1; omega
    have hbx3 : Boxed (W.putObj (w0.heap.size + 1) bz) w.heap.size _ v2 := (putObj_other _ (by omega)).trans hbx
    have hd3 := (putObj_other bz (by omega : w0.heap.size + 1 - 1 ≠ w0.heap.size + 1)).trans hd
    have hH3 := hH.keep (W' := W.putObj (w0.heap.size + 1) bz) fun b hb => putObj_other _ (hne b (.inl hb))
    have ho3 := ho2.keep (w' := W.putObj (w0.heap.size + 1) bz) fun b hb => putObj_other _ (hne b (.inr hb))
    have hb3 : Below w.heap.size w (W.putObj (w0.heap.size + 1) bz) := below_put _ hbw (by omega) (by omega)
    have hl3 : (W.putObj (w0.heap.size + 1) bz).heap[w0.heap.size + 1]? = some bz := World.putObj_heap_same hll
    have hlt3 : ∀ b, b ∈ F ∨ b ∈ F2 → b < (W.putObj (w0.heap.size + 1) bz).heap.size := fun b hb => by
      rw [World.putObj_size]
      rcases hb with hb | hb
      · exact hFl b hb
      · exact hF2l b hb
    have hfl : (framesC g l).length < 60 := by
      have := runF_len (g := g) (sortS l) []
      have h2 := sortS_len l
      have h3 := HL.out
      have : (framesC g l).length ≤ 0 + (sortS l).length := this
      omega
    clear hbx hd hH ho2 hbw hl hFl hF2l hs1 hb01 hBW h1 bO1 bL1 bG1 hL1 hD1 hc hcell hhk hne
    have HREC := Lib.hid hrec
    clear hrec
    gi_wp2
    refine ⟨trivial, ?_⟩
    generalize W.putObj (w0.heap.size + 1) bz = W3 at hbx3 hd3 hH3 ho3 hb3 hl3 hlt3 ⊢
    have hc3 := hbx3.cell
    have HBX := Lib.hid hbx3
    have HD3 := Lib.hid hd3
    have HH3 := Lib.hid hH3
    have HO3 := Lib.hid ho3
    have HB3 := Lib.hid hb3
    have HL3 := Lib.hid hl3
    have HLT := Lib.hid hlt3
    have HHK := Lib.hid hhk'
    have HFL := Lib.hid hfl
    have HF := Lib.hid hF
    have HF2 := Lib.hid hF2
    have HZ2 := Lib.hid hz
    clear hbx3 hd3 hH3 ho3 hb3 hl3 hlt3 hhk' hfl hz hF hF2 hll hcap1 hcap2
    have hkl : (hs.take k).length = k := by rw [List.length_take, HH3.out.len]; omega
    have HKL := Lib.hid hkl
    have HK := Lib.hid hk
    clear hkl hk
    have HLN := Lib.hid (show (hs.take k ++ [Value.slice fa n9 fc]).length = k + 1 by rw [List.length_append, HKL.out]; rfl)
    gi_wp2_with (gi_at_builtin
                 refine wpListIn_append_L (.tmp 11) (.tmp 13) rfl 83 rfl slVal rfl HO3.out nd2 rfl ⟨rfl, rfl, rfl⟩ List.nodup_nil (fun b hb => absurd hb List.not_mem_nil) (by have := HKL.out; have := HK.out; have := HFL.out; omega) (by have := HKL.out; have := HK.out; have := HFL.out; unfold maxLen; omega) ?_
                 intro v7 w7 F7 ho7 hn7 hf7 hg7
                 obtain ⟨a7, c7, hv7, -⟩ := ho7.form
                 rw [HLN.out] at hv7
                 subst hv7
                 have hbx7 : Boxed w7 w.heap.size 83 v2 := (HBX.out.alloc _).kept hg7 fun e => by have := (HF2.out _ (HO3.out.blk _ e.symm)).1; have := HZ.out; omega
                 have hc7 := hbx7.cell
                 have hz7 := hbx7.frozen
                 have HO7 := Lib.hid ho7
                 have HN7 := Lib.hid hn7
                 have HF7 := Lib.hid hf7
                 have HG7 := Lib.hid hg7
                 have HB7 := Lib.hid hbx7
                 clear ho7 hn7 hf7 hg7 hbx7)
    have hz := HZ.out
    have hnb : ∀ b, b < w0.heap.size + 2 → v2.ownBlock ≠ some b := fun b hb e => by have := (HF2.out _ (HO3.out.blk _ e)).1; omega
    have hl3 := (Array.getElem?_eq_some_iff.1 HL3.out).1
    have keep : ∀ b, b < W3.heap.size → b ≠ w.heap.size → v2.ownBlock ≠ some b → (w7.setCell ⟨w.heap.size, 0, none⟩ (.slice a7 (k + 1) c7)).heap[b]? = W3.heap[b]? := fun b h1 h2 h3 => by
      rw [Below.heap_setCell _ _ _ _ h2, HG7.out.block b (by simp; omega) (fun e => h3 e.symm), Below.heap_alloc _ _ _ h1]
    have hF : ∀ b ∈ F, v2.ownBlock ≠ some b := fun b hb e => (HF2.out _ (HO3.out.blk _ e)).2 hb
    refine ⟨(keep _ hl3 (by omega) (hnb _ (by omega))).trans HL3.out, F, hs, _, F7, HH3.out.keep fun b hb => ?_, nd, HF.out, (putObj_other _ (by omega)).trans (HB7.out.set _), ?_, HN7.out, fun b hb => ?_, ?_, World.putObj_heap_same ?_, ?_⟩
    · have := HF.out b hb
      rw [putObj_other _ (by omega)]
      exact keep b (HLT.out b (.inl hb)) (by omega) (hF b hb)
    · rw [HHK.out]
      have := HO7.out.keep (w' := (w7.setCell ⟨w.heap.size, 0, none⟩ (.slice a7 (k + 1) c7)).putObj (w0.heap.size + 1) (.loop rec)) fun b hb => by
        have hb2 : w0.heap.size + 1 < b := by
          rcases HF7.out b hb with q | q | q
          · have := (HF2.out b q).1; omega
          · exact absurd q List.not_mem_nil
          · omega
        rw [putObj_other _ (by omega), Below.heap_setCell _ _ _ _ (by show b ≠ w.heap.size; omega)]
      exact this
    · rcases HF7.out b hb with q | q | q
      · exact HF2.out b q
      · exact absurd q List.not_mem_nil
      · exact ⟨by omega, fun hb' => by have := HLT.out b (.inl hb'); omega⟩
    · have hsz := HG7.out.size
      simp at hsz
      refine below_put _ (bl_set ((bl_alloc HB3.out _).grown HG7.out (by simp; omega) fun k e => ?_) _ (Nat.le_refl _)) (by rw [World.size_setCell]; omega) (by omega)
      have := (HF2.out _ (HO3.out.blk _ e)).1
      omega
    · rw [World.size_setCell]
      have hsz := HG7.out.size
      simp at hsz
      omega
    · rw [putObj_other _ (by omega)]
      exact (keep _ (by omega) (by omega) (hnb _ (by omega))).trans HD3.out
  · rintro e W2 ⟨hev, ov, F, hs, v2, F2, hH, nd, hF, hbx, ho2, nd2, hF2, hbw, hl, hd⟩
    have hlen := hH.len
    rw [← hlen, List.take_length] at ho2
    have hFl := hH.own.lt
    have hF2l := ho2.lt
    have nl : ∀ b, b ∈ F ∨ b ∈ F2 → b ≠ w0.heap.size + 1 ∧ b ≠ w0.heap.size ∧ w.heap.size ≤ b := fun b hb => by
      rcases hb with hb | hb
      · have := hF _ hb; omega
      · have := (hF2 _ hb).1; omega
    have hbx3 : Boxed (W2.putObj (w0.heap.size + 1) (.loop { rec with state := .exhausted })) w.heap.size _ v2 := (putObj_other _ (by omega)).trans hbx
    have hd3 := (putObj_other (.loop { rec with state := .exhausted }) (by omega : w0.heap.size ≠ w0.heap.size + 1)).trans hd
    have hH3 := hH.keep (W' := W2.putObj (w0.heap.size + 1) (.loop { rec with state := .exhausted })) fun b hb => putObj_other _ (nl b (.inl hb)).1
    have ho3 := ho2.keep (w' := W2.putObj (w0.heap.size + 1) (.loop { rec with state := .exhausted })) fun b hb => putObj_other _ (nl b (.inr hb)).1
    have hb3 : Below w.heap.size w (W2.putObj (w0.heap.size + 1) (.loop { rec with state := .exhausted })) := below_put _ hbw (by have := (Array.getElem?_eq_some_iff.1 hl).1; omega) (by omega)
    refine ⟨hev, hl, ?_⟩
    have HNL := Lib.hid nl
    clear hbx hd hH ho2 hbw hl hFl hF2l hz hs1 hb01 hBW h1 bO1 bL1 bG1 hL1 hD1 hev nl
    generalize W2.putObj (w0.heap.size + 1) (.loop { rec with state := .exhausted }) = W3 at hbx3 hd3 hH3 ho3 hb3 ⊢
    have hc3 := hbx3.cell
    clear hbx3
    have HD3 := Lib.hid hd3
    have HH3 := Lib.hid hH3
    have HO3 := Lib.hid ho3
    have HB3 := Lib.hid hb3
    clear hd3 hH3 ho3 hb3 hlen
    gi_wp2
    refine ⟨by simp, .inl ⟨_, _, rfl, run_takeDeferred HD3.out, ?_⟩⟩
    have hH4 := HH3.out.keep (W' := W3.putObj w0.heap.size (.deferred none)) fun b hb => putObj_other _ (HNL.out b (.inl hb)).2.1
    have ho4 := OwnL.vals (HO3.out.keep (w' := W3.putObj w0.heap.size (.deferred none)) fun b hb => putObj_other _ (HNL.out b (.inr hb)).2.1)
    have hlen := hH4.len
    refine ⟨_, results_tmp rfl _ _ _, ⟨_, rfl, hH4.moved nd (fun b hb => (HNL.out b (.inl hb)).2.2) ?_ ?_⟩, ?_⟩
    · rw [← hlen]
      exact ownsRow_from ho4.2 fun b hb => (HNL.out b (.inr (by rw [ho4.1]; have hb' : v2.ownBlock = some b := hb; simp [hb']))).2.2
    · intro b hb
      exact (hF2 b (by rw [ho4.1]; have hb' : v2.ownBlock = some b := hb; simp [hb'])).2
    · have hz := HZ.out
      exact below_put _ HB3.out (by have := (Array.getElem?_eq_some_iff.1 HD3.out).1; omega) (by omega)
end Go.Proofs.YtelnnjofccldgaaGreatDoor
