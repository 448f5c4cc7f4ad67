/-
  Layer 37 (post): a configuration that a law is handed: its accounts, with plates that can be handed over.
-/
import Derived.Test.YtifcelebfagjbaaGreatDoorSized
import Derived.Test.YtifcelebfagjbaaGreatDoorPoRy
import Derived.Test.YtifcelebfagjbaaGreatDoorMgW
namespace Go.Tw
open Go.RowKit Go.ChangeShapes Go.WideShapes
theorem OpensW.mono {α β : Type} {P : Program} {t : TypeId} {T : Ty α} {T' : Ty β} (h : OpensW P t T) (hm : ∀ (w : World) (cs : List Value) (x : α), T.is (· < w.heap.size) w cs x → ∃ y, T'.is (· < w.heap.size) w cs y) : OpensW P t T' := fun H enc w fuel cs x hx hw => by
  obtain ⟨y, hy⟩ := h H enc w fuel cs x hx hw
  exact hm w cs y hy
theorem opensW_str {P : Program} {t : TypeId} (ht : P.underlying t = some .string) : OpensW P t (tStr.sub fun s => s.size ≤ reachBytes) := fun H enc w fuel cs x hx hw => by
  obtain ⟨s, rfl, rfl, hs⟩ := DataW.trod_string ht hx
  refine ⟨s, ⟨rfl, hs⟩, ?_⟩
  have := hw s.data.toList.length (by simp [DataW.weights])
  simpa using this
inductive FieldsOpenW (P : Program) : {α : Type} → Nat → List Field → Ty α → Prop
  | one {α : Type} {T : Ty α} {o : Nat} {f : Field} : f.offset = o → P.cellsOf f.type = T.sz → OpensW P f.type T → FieldsOpenW P o [f] T
  | cons {α β : Type} {T : Ty α} {U : Ty β} {o : Nat} {f : Field} {fs : List Field} : f.offset = o → P.cellsOf f.type = T.sz → OpensW P f.type T → FieldsOpenW P (o + T.sz) fs U → FieldsOpenW P o (f :: fs) (T.pair U)
theorem fieldsOpenW_is {H : Type} {enc : TypeId × Value → H} {P : Program} {w : World} {α : Type} {U : Ty α} {o : Nat} {fs : List Field} (h : FieldsOpenW P o fs U) : ∀ {cs : List Value} {n : Nat} {xs : List (DataW H × List MemPlace)},
    fs.length = xs.length → (∀ (i : Nat) (f : Field), fs[i]? = some f → DataW.trod enc P w 0 (fun _ => true) true n f.type ((cs.drop f.offset).take (P.cellsOf f.type)) = xs[i]?) →
    (∀ (i : Nat) (f : Field) (x : DataW H × List MemPlace), fs[i]? = some f → xs[i]? = some x → ∀ k ∈ x.1.weights P f.type, k ≤ reachBytes) →
    cs.length = o + U.sz → ∃ y, U.is (· < w.heap.size) w (cs.drop o) y := by
  induction h with
  | one ho hc hop =>
    intro cs n xs hx hf hw hl
    match xs, hx with
    | [x], _ =>
      have := hf 0 _ rfl
      rw [ho, hc, List.take_of_length_le (by simp; omega)] at this
      exact hop _ _ _ _ _ _ this (hw 0 _ _ rfl rfl)
  | cons ho hc hop _ ih =>
    intro cs n xs hx hf hw hl
    match xs, hx with
    | x :: xs, hx =>
      have h0 := hf 0 _ rfl
      rw [ho, hc] at h0
      obtain ⟨y, hy⟩ := hop _ _ _ _ _ _ h0 (hw 0 _ _ rfl rfl)
      obtain ⟨z, hz⟩ := ih (by simpa using hx) (fun i f h => by simpa using hf (i + 1) f (by simpa using h)) (fun i f y h h2 => hw (i + 1) f y (by simpa using h) (by simpa using h2)) (by simp [Ty.pair] at hl; omega)
      refine ⟨(y, z), _, _, ?_, hy, hz⟩
      rw [← List.drop_drop, List.take_append_drop]
theorem structW {H : Type} {enc : TypeId × Value → H} {P : Program} {w : World} {t : TypeId} {fs : Array Field} {fuel : Nat} {cs : List Value} {x : DataW H × List MemPlace} (ht : P.underlying t = some (.struct fs)) (hx : DataW.trod enc P w 0 (fun _ => true) true fuel t cs = some x) (hw : ∀ n ∈ x.1.weights P t, n ≤ reachBytes) :
    ∃ (xs : List (DataW H × List MemPlace)) (n : Nat), cs.length = P.cellsOf t ∧ xs.length = fs.size ∧ (∀ (i : Nat) (f : Field), fs[i]? = some f → DataW.trod enc P w 0 (fun _ => true) true n f.type ((cs.drop f.offset).take (P.cellsOf f.type)) = xs[i]?) ∧
      ∀ (i : Nat) (f : Field) (y : DataW H × List MemPlace), fs[i]? = some f → xs[i]? = some y → ∀ k ∈ y.1.weights P f.type, k ≤ reachBytes := by
  obtain ⟨xs, n, _, hxe, hl, hlen, hf⟩ := DataW.trod_struct ht hx
  refine ⟨xs, n, hl, hlen, hf, fun i f y hi hy k hk => hw k ?_⟩
  rw [hxe]
  simp only [DataW.weights, ht]
  exact DataW.weights_mem_each (j := i) (by simp [hi]) (by simp [hy]) k hk
theorem opensW_struct {α : Type} {P : Program} {T : Ty α} {t : TypeId} {fs : Array Field} (ht : P.underlying t = some (.struct fs)) (hsz : P.cellsOf t = T.sz) (h : FieldsOpenW P 0 fs.toList T) : OpensW P t T := fun H enc w fuel cs x hx hw => by
  obtain ⟨xs, n, hl, hlen, hf, hw'⟩ := structW ht hx hw
  obtain ⟨y, hy⟩ := fieldsOpenW_is h (by simpa using hlen.symm) (fun i f hi => hf i f (by simpa using hi)) (fun i f y hi hy => hw' i f y (by simpa using hi) hy) (by omega)
  exact ⟨y, by simpa using hy⟩
/-- one field of a struct that a law is handed -/
theorem arg_fieldW {H : Type} {enc : TypeId × Value → H} {P : Program} {w : World} {r : Reach} {b0 : Nat} {t : TypeId} {v : Value} {d : DataW H} {ps : List MemPlace} {ts : List TypeId} {ds : List (DataW H)} {j i : Nat} {fs : Array Field} {f : Field} {α : Type} {T : Ty α}
    (ht : P.underlying t = some (.struct fs)) (hi : fs[i]? = some f) (ho : OpensW P f.type T) (hval : Value.okWide P w r b0 t v) (hd : DataW.Trod enc P w 0 (fun _ => true) true t v d ps)
    (hz : (DataW.weightsEach P ts ds).all (· ≤ reachBytes) = true) (htj : ts[j]? = some t) (hdj : ds[j]? = some d) : ∃ cs y, v = .agg cs ∧ cs.size = P.cellsOf t ∧ T.is (· < w.heap.size) w ((cs.toList.drop f.offset).take (P.cellsOf f.type)) y := by
  obtain ⟨fuel, h⟩ := hd
  simp only [Value.okWide, ht] at hval
  obtain ⟨cs, rfl, _⟩ := hval
  obtain ⟨xs, n, hl, hlen, hf, hw'⟩ := structW ht h (fun n hn => by
    have := List.all_eq_true.1 hz _ (DataW.weights_mem_each htj hdj n hn)
    simpa using this)
  have hix : i < xs.length := by
    rw [hlen]
    exact (Array.getElem?_eq_some_iff.1 hi).1
  have h1 := hf i f hi
  rw [List.getElem?_eq_getElem hix] at h1
  obtain ⟨y, hy⟩ := ho _ _ _ _ _ _ h1 (hw' i f _ hi (List.getElem?_eq_getElem hix))
  exact ⟨cs, y, rfl, by simpa [Value.cells] using hl, hy⟩
end Go.Tw
namespace Go.Proofs.YtifcelebfagjbaaGreatDoor
open Go.RowKit Go.Tw Go.Tw.Ord Go.Tw.Po Go.Sort Go.ChangeShapes Go.WideShapes
theorem trodAll_four {H : Type} {enc : TypeId × Value → H} {P : Program} {w : World} {base : Nat} {spare : Nat → Bool} {held : Bool} {t t' t'' t3 : TypeId} {args : Array Value} {ds : List (DataW H)} {ps : List MemPlace} (h : DataW.TrodAll enc P w base spare held [t, t', t'', t3] args.toList ds ps) :
    ∃ v v' v'' v3 d d' d'' d3 p p' p'' p3, args = #[v, v', v'', v3] ∧ ds = [d, d', d'', d3] ∧ ps = p ++ p' ++ p'' ++ p3 ∧ DataW.Trod enc P w base spare held t v d p ∧ DataW.Trod enc P w base spare held t' v' d' p' ∧ DataW.Trod enc P w base spare held t'' v'' d'' p'' ∧ DataW.Trod enc P w base spare held t3 v3 d3 p3 := by
  obtain ⟨v, vs, d, ds', p, q, hargs, rfl, rfl, hd, hrest⟩ := trodAll_cons h
  obtain ⟨v', vs', d', ds'', p', q', rfl, rfl, rfl, hd', hrest'⟩ := trodAll_cons hrest
  obtain ⟨v'', vs'', d'', ds''', p'', q'', rfl, rfl, rfl, hd'', hrest''⟩ := trodAll_cons hrest'
  obtain ⟨v3, vs3, d3, ds4, p3, q3, rfl, rfl, rfl, hd3, hrest3⟩ := trodAll_cons hrest''
  obtain ⟨rfl, rfl, rfl⟩ := trodAll_nil hrest3
  exact ⟨v, v', v'', v3, d, d', d'', d3, p, p', p'', p3, by cases args; simp_all, rfl, by simp, hd, hd', hd'', hd3⟩
theorem opensSpan : Opens Tryz.prog 136 (tInt.pair tInt) := opens_struct Tryz.underlying136 (by kernel_rfl) (.cons rfl (by kernel_rfl) (opens_int Tryz.underlying3) (.one rfl (by kernel_rfl) (opens_int Tryz.underlying3)))
theorem opensOw : OpensW Tryz.prog 138 (tOw.sub fun o => o.plt.size ≤ reachBytes) :=
  (opensW_struct (T := tStr.pair ((tStr.sub fun s => s.size ≤ reachBytes).pair (tInt.pair tInt))) Tryz.underlying138 (by kernel_rfl) (.cons rfl (by kernel_rfl) (Opens.sized (opens_str Tryz.underlying9)) (.cons rfl (by kernel_rfl) (opensW_str Tryz.underlying9) (.one rfl (by kernel_rfl) (Opens.sized opensSpan))))).mono fun w cs x h => by
    obtain ⟨tag, plt, fr, tt⟩ := x
    obtain ⟨_, _, rfl, h1, _, _, rfl, ⟨h2, h3⟩, h4⟩ := h
    exact ⟨⟨tag, plt, fr, tt⟩, ⟨_, _, rfl, h1, _, _, rfl, h2, h4⟩, h3⟩
theorem opensRefill : Opens Tryz.prog 94 (tInt.pair (tInt.pair (tInt.pair tInt))) := opens_struct Tryz.underlying94 (by kernel_rfl) (.cons rfl (by kernel_rfl) (opens_int Tryz.underlying3) (.cons rfl (by kernel_rfl) (opens_int Tryz.underlying3) (.cons rfl (by kernel_rfl) (opens_int Tryz.underlying3) (.one rfl (by kernel_rfl) (opens_int Tryz.underlying3)))))
theorem opensAcc : OpensW Tryz.prog 96 ((tAcc 138).sub fun a => PltOk a.ow) :=
  (opensW_struct (T := tStr.pair (tStr.pair (tBool.pair ((((tOw.sub fun o => o.plt.size ≤ reachBytes).list 138).sub fun l => l.length ≤ reachBytes).pair ((tInt.pair (tInt.pair (tInt.pair tInt))).pair tBool))))) Tryz.underlying96 (by kernel_rfl)
    (.cons rfl (by kernel_rfl) (Opens.sized (opens_str Tryz.underlying9)) (.cons rfl (by kernel_rfl) (Opens.sized (opens_str Tryz.underlying9)) (.cons rfl (by kernel_rfl) (Opens.sized (opens_bool Tryz.underlying4)) (.cons rfl (by kernel_rfl) (opensW_slice Tryz.underlying92 (by kernel_rfl) (by decide) (of_decide_eq_true (by kernel_rfl)) opensOw) (.cons rfl (by kernel_rfl) (Opens.sized opensRefill) (.one rfl (by kernel_rfl) (Opens.sized (opens_bool Tryz.underlying4))))))))).mono fun w cs x h => by
    obtain ⟨nm, ag, pre, ow, ⟨r1, r2, r3, r4⟩, ex⟩ := x
    obtain ⟨_, _, rfl, h1, _, _, rfl, h2, _, _, rfl, h3, _, _, rfl, ⟨⟨v, rfl, h4⟩, -⟩, _, _, rfl, ⟨_, _, rfl, h5, _, _, rfl, h6, _, _, rfl, h7, h8⟩, h9⟩ := h
    obtain ⟨g1, g2⟩ := h4.ofSub
    exact ⟨⟨nm, ag, pre, ow, r1, r2, r3, r4, ex⟩, ⟨_, _, rfl, h1, _, _, rfl, h2, _, _, rfl, h3, _, _, rfl, ⟨v, rfl, g1⟩, _, _, by simp only [List.append_assoc], h5, _, _, rfl, h6, _, _, rfl, h7, _, _, rfl, h8, h9⟩, fun o ho => g2 o ho⟩
theorem opensAccs : OpensW Tryz.prog 40 ((((tAcc 138).sub fun a => PltOk a.ow).list 96).sub fun l => l.length ≤ reachBytes) := opensW_slice Tryz.underlying40 (by kernel_rfl) (by decide) (of_decide_eq_true (by kernel_rfl)) opensAcc
set_option maxRecDepth 100000 in
/-- the configuration -/
theorem arg_cfg {H : Type} {enc : TypeId × Value → H} {w : World} {r : Reach} {b0 : Nat} {v : Value} {d : DataW H} {ps : List MemPlace} {ts : List TypeId} {ds : List (DataW H)} {j : Nat}
    (hval : Value.okWide Tryz.prog w r b0 46 v) (hd : DataW.Trod enc Tryz.prog w 0 (fun _ => true) true 46 v d ps)
    (hz : (DataW.weightsEach Tryz.prog ts ds).all (· ≤ reachBytes) = true) (htj : ts[j]? = some 46) (hdj : ds[j]? = some d) :
    ∃ A ao n c l, v = .agg A ∧ CfgA A (.slice ao n c) ∧ SlIs (tAcc 138) (· < w.heap.size) w (.slice ao n c) l ∧ ∀ a ∈ l, PltOk a.ow := by
  obtain ⟨cs, l, rfl, hsz, ⟨va, hva, hl⟩, -⟩ := arg_fieldW Tryz.underlying46 (i := 12) rfl opensAccs hval hd hz htj hdj
  obtain ⟨g1, g2⟩ := hl.ofSub
  obtain ⟨ao, c, _, _, rfl, -⟩ := id g1
  refine ⟨cs, ao, _, c, l, rfl, ⟨hsz.trans (by kernel_rfl), ?_⟩, g1, g2⟩
  have h17 : (cs.toList.drop 17).take 1 = [.slice ao l.length c] := hva
  have := congrArg (fun x : List Value => x[0]?) h17
  simpa using this
end Go.Proofs.YtifcelebfagjbaaGreatDoor
