/-
  Evaluation of calls, part 3: a region's law. No program in sight.
-/
import Derived.Test.YtelnnjofccldgaaGreatDoorEvR
namespace Go.Ev
open Go

def cntF (f : Nat → Bool) : Nat → Nat
  | 0 => 0
  | n + 1 => cntF f n + (if f n then 0 else 1)
theorem cntF_congr {f f' : Nat → Bool} : ∀ {n : Nat}, (∀ j, j < n → f j = f' j) → cntF f n = cntF f' n
  | 0, _ => rfl
  | n + 1, h => by simp only [cntF]; rw [cntF_congr fun j hj => h j (by omega), h n (by omega)]
theorem cntF_set {f f' : Nat → Bool} {i : Nat} (hf : f i = false) (hf' : f' i = true) (hr : ∀ j, j ≠ i → f' j = f j) : ∀ {n : Nat}, i < n → cntF f' n + 1 = cntF f n
  | 0, h => by omega
  | n + 1, h => by
    simp only [cntF]
    by_cases e : i = n
    · subst e
      rw [cntF_congr (f := f') (f' := f) fun j hj => hr j (by omega), hf, hf']; simp
    · have := cntF_set hf hf' hr (n := n) (by omega)
      rw [hr n (fun q => e q.symm)]; omega
theorem cntF_zero {f : Nat → Bool} : ∀ {n : Nat}, cntF f n = 0 → ∀ j, j < n → f j = true
  | 0, _, j, hj => by omega
  | n + 1, h, j, hj => by
    simp only [cntF] at h
    by_cases e : j = n
    · subst e
      cases hf : f j with
      | true => rfl
      | false => rw [hf] at h; simp at h
    · exact cntF_zero (n := n) (by omega) j (by omega)

section
variable {P : Program} {G : Nat} {ops : Array Oper} {steps : List Stp} {pre : Nat → Nat} {t0 : Nat → Value} {σ0 : Hp} {n0 m0 N : Nat} {dirty : Nat → Prop} {ι0 : Img} {w0 : World} {Q : Exit → Act → World → Prop}

theorem all_of_ready (g : Good P G ops steps pre t0 σ0 n0) {listed : Array Bool} (hls : listed.size = ops.size) (hr : Region.ready .any ops listed = []) : ∀ j, j < ops.size → listed.getD j false = true := by
  intro j
  induction j using Nat.strongRecOn with
  | _ j ih =>
    intro hj
    cases hD : listed.getD j false with
    | true => rfl
    | false =>
      have ht : listed.getD j true = false := by
        have hl : j < listed.size := by omega
        simp only [Array.getD_eq_getD_getElem?, Array.getElem?_eq_getElem hl, Option.getD_some] at hD ⊢
        exact hD
      have hm : j ∈ Region.ready .any ops listed := mem_ready.2 ⟨ht, ops[j], Array.getElem?_eq_getElem hj, fun e he hb => by
        have := g.back j _ (Array.getElem?_eq_getElem hj) e he hb
        exact ih e.on this (by omega)⟩
      rw [hr] at hm; cases hm
theorem ready_of_all {listed : Array Bool} (hls : listed.size = ops.size) (h : ∀ j, j < ops.size → listed.getD j false = true) : Region.ready .any ops listed = [] := by
  cases hr : Region.ready .any ops listed with
  | nil => rfl
  | cons i l =>
    have hm : i ∈ Region.ready .any ops listed := by rw [hr]; simp
    obtain ⟨h1, o, ho, -⟩ := mem_ready.1 hm
    have hl : i < ops.size := (Array.getElem?_eq_some_iff.1 ho).1
    have := h i hl
    have hl' : i < listed.size := by omega
    simp only [Array.getD_eq_getD_getElem?, Array.getElem?_eq_getElem hl', Option.getD_some] at h1 this
    rw [h1] at this; cases this
theorem RD.all (g : Good P G ops steps pre t0 σ0 n0) {D : Nat → Bool} (hD : ∀ j, j < ops.size → D j = true) {ι : Img} {a : Act} {w : World} (h : RD steps t0 σ0 n0 D ι a w) : RD steps t0 σ0 n0 (fun _ => true) ι a w := by
  have hs : ∀ (j : Nat) (s : Stp), steps[j]? = some s → D (0 + j) = true := fun j s hj => by
    rw [Nat.zero_add]
    exact hD j (by rw [← g.len]; exact (List.getElem?_eq_some_iff.1 hj).1)
  refine ⟨fun t => ?_, h.sz, ?_, fun b hb => (h.dom b hb).imp id fun ⟨i, s, _, q⟩ => ⟨i, s, rfl, q⟩⟩
  · rw [tmpAt_congr steps 0 (fun _ => true) D t (t0 t) fun j s hj _ => (hs j s hj).symm]
    exact h.tm t
  · have e : (fun b => blkAt steps 0 (fun _ => true) b (σ0 b)) = fun b => blkAt steps 0 D b (σ0 b) := funext fun b => blkAt_congr _ _ _ _ _ _ fun j s hj _ => (hs j s hj).symm
    rw [e]
    exact h.hr

theorem opnd_VR {ι : Img} {a : Act} {T : Nat → Value} (hG : ∀ g, g < G → ι g = some (g, big)) {x : Operand} (hx : opnd G x = true) (ht : ∀ t, x = .tmp t → VR ι (T t) (a.tmps.getD t undef)) : VR ι (rho T x) (a.eval x) := by
  cases x with
  | tmp t => exact ht t rfl
  | const v => exact free_refl hx
  | global g => exact .ptr (hG g (by simpa [opnd] using hx))
  | func f => exact .func .nil

/-- one operation of a region that may come up now -/
theorem op_now (g : Good P G ops steps pre t0 σ0 n0) (hG : ∀ g, g < G → ι0 g = some (g, big)) (hd : ∀ (i : Nat) (s : Stp), steps[i]? = some s → ∀ b, b ∈ keys s.eff.wr → ι0 b ≠ none → dirty b) (hm : m0 ≤ n0)
    {listed : Array Bool} (hls : listed.size = ops.size) {ι : Img} {a : Act} {w : World} (h : RD steps t0 σ0 n0 (fun j => listed.getD j false) ι a w) (hf : Fr m0 dirty ι0 w0 ι w) (ha : a.defers = []) (hN : a.tmps.size = N)
    {i : Nat} {o : Oper} (ho : ops[i]? = some o) (hi : listed.getD i false = false) (hag' : ∀ s, steps[i]? = some s → Agr steps (fun j => listed.getD j false) i s) {K : Act → World → Prop}
    (hK : ∀ ι' a' w', RD steps t0 σ0 n0 (fun j => (listed.setIfInBounds i true).getD j false) ι' a' w' → Fr m0 dirty ι0 w0 ι' w' → a'.defers = [] → a'.tmps.size = N → K a' w') : wpOp P ops Q i K a w := by
  obtain ⟨s, hs, hdst, hlk, hlo, hop⟩ := g.at_ i o ho
  have hag := hag' s hs
  have hta : ∀ t ∈ o.looksAt ops, tmpAt steps 0 (fun j => listed.getD j false) t (t0 t) = tmpAt steps 0 (fun j => decide (j < i)) t (t0 t) := fun t ht => tmp_eq hag (by rw [hlk]; exact ht)
  have hva : ∀ t ∈ o.looksAt ops, VR ι (tmpAt steps 0 (fun j => decide (j < i)) t (t0 t)) (a.tmps.getD t undef) := fun t ht => by rw [← hta t ht]; exact h.tm t
  have hw := wanted_eq (ops := ops) (a := a) (T := fun t => tmpAt steps 0 (fun j => decide (j < i)) t (t0 t)) hva
  have hdef : ∀ v, (a.put o.dst v).defers = [] := fun v => by cases o.dst <;> exact ha
  have hfree : ∀ b, s.eff.lo ≤ b → b < s.eff.hi → ι b = none := fun b h1 h2 => by
    cases e : ι b with
    | none => rfl
    | some x =>
      rcases h.dom b (by rw [e]; simp) with q | ⟨j, s', q1, q2, q3, q4⟩
      · omega
      · rcases Nat.lt_trichotomy i j with hij | hij | hij
        · have := g.rng i j s s' hs q2 hij; omega
        · subst hij
          rw [hi] at q1; cases q1
        · have := g.rng j i s' s q2 hs hij; omega
  unfold wpOp
  simp only [ho]
  rcases hop with ⟨hwt, hopd, hok, hlive, hkey⟩ | ⟨hwt, hout, hwr⟩
  · rw [if_pos (hw.trans hwt)]
    have hbl : ∀ b, b ∈ s.eff.rd → blkAt steps 0 (fun j => listed.getD j false) b (σ0 b) = blkAt steps 0 (fun j => decide (j < i)) b (σ0 b) := fun b hb => blk_eq hag hb
    refine .inl (hok ι a w (fun k hk => hf.ext _ _ (hG k hk)) (fun x hx => opnd_VR (fun k hk => hf.ext _ _ (hG k hk)) (hopd x hx) fun t ht => hva t ?_) hfree hlive ?_ K Q fun ι' v' w' st => ?_)
    · subst ht
      unfold Oper.looksAt
      exact List.mem_append_left _ (List.mem_filterMap.2 ⟨.tmp t, by simpa using hx, rfl⟩)
    · refine h.hr.sub fun b B hB => ?_
      split at hB
      · rename_i hb
        rw [hbl b hb]; exact hB
      · cases hB
    · exact hK ι' _ w' (h.next hls ho hs hag st hdst (fun b hb => by rw [hbl b hb]; exact hlive b hb) hkey hfree) (hf.step st (hd i s hs) (Nat.le_trans hm hlo)) (hdef _) (by rw [put_size]; exact hN)
  · rw [if_neg (by rw [hw, hwt]; simp)]
    have st : Step ι w ι w s.eff undef := ⟨by rw [hout]; exact .same rfl, Ext1.refl _, fun b e e' => absurd e e', Nat.le_refl _, fun _ _ _ => rfl, fun b B e => (by rw [hwr] at e; simp [look] at e), fun b b' B B' k c c' e => (by rw [hwr] at e; simp [look] at e), fun b k c e e' => (by rw [e] at e'; cases e'), Same3.refl _⟩
    have hfr : Fr m0 dirty ι0 w0 ι w := hf
    -- the names of an operation that does nothing are nobody's
    refine hK ι _ w ?_ hfr (hdef _) (by rw [put_size]; exact hN)
    have hlt : i < listed.size := by rw [hls]; exact (Array.getElem?_eq_some_iff.1 ho).1
    have g' := g
    have hrd : RD steps t0 σ0 n0 (fun j => (listed.setIfInBounds i true).getD j false) ι (a.put o.dst undef) w := by
      have later : ∀ j s', steps[j]? = some s' → i < j → conf s s' = true → (listed.setIfInBounds i true).getD (0 + j) false = false := fun j s' hj hlt' hc => by
        rw [Nat.zero_add, getD_set_ne false (by omega)]
        have := hag j s' hj ⟨fun h => absurd h (by omega), fun _ => hc⟩
        simp only at this
        rw [this]; exact decide_eq_false (by omega)
      refine ⟨fun t => ?_, fun j s' d hj hd => by rw [put_size]; exact h.sz j s' d hj hd, ?_, fun b hb => ?_⟩
      · by_cases ht : s.dst = some t
        · rw [tmpAt_last steps 0 _ t _ i s hs ht (by rw [Nat.zero_add]; exact setD_same hlt) fun j s' hj hlt' hs' => later j s' hj hlt' (conf_dst ht hs'), hout, ← hdst, ht, put_same (h.sz i s t hs ht)]
          exact .same rfl
        · rw [put_getD (by rw [← hdst]; exact ht)]
          rw [tmpAt_congr steps 0 (fun j => (listed.setIfInBounds i true).getD j false) (fun j => listed.getD j false) t (t0 t) fun j s' hj hs' => ?_]
          · exact h.tm t
          · simp only [Nat.zero_add]
            refine getD_set_ne false fun e => ?_
            subst e
            rw [hs] at hj
            simp only [Option.some.injEq] at hj
            subst hj
            exact ht hs'
      · have e : (fun b => blkAt steps 0 (fun j => (listed.setIfInBounds i true).getD j false) b (σ0 b)) = fun b => blkAt steps 0 (fun j => listed.getD j false) b (σ0 b) := funext fun b => blkAt_congr _ _ _ _ _ _ fun j s' hj hs' => by
          simp only [Nat.zero_add]
          refine getD_set_ne false fun e => ?_
          subst e
          rw [hs] at hj
          simp only [Option.some.injEq] at hj
          subst hj
          rw [hwr] at hs'
          simp [keys] at hs'
        rw [e]; exact h.hr
      · exact (h.dom b hb).imp id fun ⟨j, s', q1, q⟩ => ⟨j, s', getD_set_true q1, q⟩
    exact hrd

theorem region_any (g : Good P G ops steps pre t0 σ0 n0) (hind : Ind steps pre) (hG : ∀ g, g < G → ι0 g = some (g, big)) (hd : ∀ (i : Nat) (s : Stp), steps[i]? = some s → ∀ b, b ∈ keys s.eff.wr → ι0 b ≠ none → dirty b) (hm : m0 ≤ n0)
    (hQ : ∀ ι a w, RD steps t0 σ0 n0 (fun _ => true) ι a w → Fr m0 dirty ι0 w0 ι w → a.defers = [] → a.tmps.size = N → Q .normal a w) :
    ∀ (fuel : Nat) (listed : Array Bool) (ι : Img) (a : Act) (w : World), listed.size = ops.size → (Shut ops fun j => listed.getD j false) → cntF (fun j => listed.getD j false) ops.size ≤ fuel →
      RD steps t0 σ0 n0 (fun j => listed.getD j false) ι a w → Fr m0 dirty ι0 w0 ι w → a.defers = [] → a.tmps.size = N → wpAny P .any ops Q fuel listed a w := by
  intro fuel
  induction fuel with
  | zero =>
    intro listed ι a w hls _ hc h hf ha hN
    have hall := cntF_zero (f := fun j => listed.getD j false) (Nat.le_zero.1 hc)
    exact ⟨ready_of_all hls hall, hQ ι a w (h.all g hall) hf ha hN⟩
  | succ fuel ih =>
    intro listed ι a w hls hD hc h hf ha hN
    refine ⟨fun hr => hQ ι a w (h.all g (all_of_ready g hls hr)) hf ha hN, fun i hi => ?_⟩
    obtain ⟨h1, o, ho, h2⟩ := mem_ready.1 hi
    have hlt : i < ops.size := (Array.getElem?_eq_some_iff.1 ho).1
    have hi0 : listed.getD i false = false := by
      have hl : i < listed.size := by omega
      simp only [Array.getD_eq_getD_getElem?, Array.getElem?_eq_getElem hl, Option.getD_some] at h1 ⊢
      exact h1
    refine op_now g hG hd hm hls h hf ha hN ho hi0 (fun s hs => g.agree hind hD ho hs hi0 h2) fun ι' a' w' h' hf' ha' hN' => ih _ ι' a' w' (by simpa using hls) (shut_set hD ho h2) ?_ h' hf' ha' hN'
    have := cntF_set (f := fun j => listed.getD j false) (f' := fun j => (listed.setIfInBounds i true).getD j false) hi0 (setD_same (by omega)) (fun j hj => getD_set_ne false (Ne.symm hj)) hlt
    omega

/-- a region without a draw: in the text's order -/
theorem region_list (g : Good P G ops steps pre t0 σ0 n0) (hG : ∀ g, g < G → ι0 g = some (g, big)) (hd : ∀ (i : Nat) (s : Stp), steps[i]? = some s → ∀ b, b ∈ keys s.eff.wr → ι0 b ≠ none → dirty b) (hm : m0 ≤ n0)
    (hQ : ∀ ι a w, RD steps t0 σ0 n0 (fun _ => true) ι a w → Fr m0 dirty ι0 w0 ι w → a.defers = [] → a.tmps.size = N → Q .normal a w) :
    ∀ (k i : Nat) (listed : Array Bool) (ι : Img) (a : Act) (w : World), i + k = ops.size → listed.size = ops.size → (∀ j, listed.getD j false = decide (j < i)) →
      RD steps t0 σ0 n0 (fun j => listed.getD j false) ι a w → Fr m0 dirty ι0 w0 ι w → a.defers = [] → a.tmps.size = N → wpOps P ops Q (List.range' i k) a w := by
  intro k
  induction k with
  | zero =>
    intro i listed ι a w hk hls hl h hf ha hN
    refine hQ ι a w (h.all g fun j hj => ?_) hf ha hN
    rw [hl j]; exact decide_eq_true (by omega)
  | succ k ih =>
    intro i listed ι a w hk hls hl h hf ha hN
    rw [List.range'_succ, wpOps_cons]
    have hlt : i < ops.size := by omega
    have ho := Array.getElem?_eq_getElem hlt
    refine op_now g hG hd hm hls h hf ha hN ho (by rw [hl]; simp) (fun s hs j s' hj _ => hl j) fun ι' a' w' h' hf' ha' hN' => ih (i + 1) _ ι' a' w' (by omega) (by simpa using hls) (fun j => ?_) h' hf' ha' hN'
    by_cases e : i = j
    · subst e
      rw [setD_same (by omega)]; exact (decide_eq_true (by omega)).symm
    · rw [getD_set_ne false e, hl]
      congr 1
      exact propext ⟨fun q => by omega, fun q => by omega⟩

/-- a region's law -/
theorem wp_region_ev {draw : Bool} (g : Good P G ops steps pre t0 σ0 n0) (hind : draw = true → Ind steps pre) (hmx : P.follows .mixedOrders = true) (hG : ∀ g, g < G → ι0 g = some (g, big)) (hd : ∀ (i : Nat) (s : Stp), steps[i]? = some s → ∀ b, b ∈ keys s.eff.wr → ι0 b ≠ none → dirty b) (hm : m0 ≤ n0)
    {id : Nat} {ι : Img} {a : Act} {w : World} (htm : ∀ t, VR ι (t0 t) (a.tmps.getD t undef)) (hsz : ∀ (i : Nat) (s : Stp) (d : Nat), steps[i]? = some s → s.dst = some d → d < a.tmps.size) (hr : HR ι w σ0) (hdom : ∀ b, ι b ≠ none → b < n0)
    (hf : Fr m0 dirty ι0 w0 ι w) (ha : a.defers = []) (hQ : ∀ ι a' w, RD steps t0 σ0 n0 (fun _ => true) ι a' w → Fr m0 dirty ι0 w0 ι w → a'.defers = [] → a'.tmps.size = a.tmps.size → Q .normal a' w) : (Code.region id ops draw).wp P Q a w := by
  have z : ∀ j, (Array.replicate ops.size false).getD j false = false := fun j => by
    simp only [Array.getD_eq_getD_getElem?, Array.getElem?_replicate]
    split <;> rfl
  have h0 : ∀ w', w'.heap = w.heap → RD steps t0 σ0 n0 (fun j => (Array.replicate ops.size false).getD j false) ι a w' := fun w' hw => by
    refine ⟨fun t => ?_, hsz, ?_, fun b hb => .inl (hdom b hb)⟩
    · rw [tmpAt_no steps 0 _ t _ fun j s _ _ => z _]; exact htm t
    · have e : (fun b => blkAt steps 0 (fun j => (Array.replicate ops.size false).getD j false) b (σ0 b)) = σ0 := funext fun b => blkAt_no _ _ _ _ _ fun j s _ _ => z _
      rw [e]
      exact ⟨fun b B hB => (hr.at_ b B hB).imp fun k ⟨c, q1, q2⟩ => ⟨c, q1, q2.mono (Ext1.refl _) (by rw [hw])⟩, hr.inj⟩
  cases draw with
  | true =>
    refine wp_region_any hmx ?_
    refine region_any (N := a.tmps.size) g (hind rfl) hG hd hm hQ ops.size _ ι a _ (by simp) (fun j o hj => ?_) ?_ (h0 _ rfl) ?_ ha rfl
    · simp only at hj; rw [z] at hj; cases hj
    · have : ∀ n, cntF (fun j => (Array.replicate ops.size false).getD j false) n ≤ n := fun n => by
        induction n with
        | zero => exact Nat.le_refl _
        | succ n ih => simp only [cntF]; split <;> omega
      exact this _
    · exact ⟨hf.ext, hf.size, hf.frame, hf.img, hf.new, hf.rest⟩
  | false =>
    refine wp_region ?_
    rw [List.range_eq_range']
    exact region_list (N := a.tmps.size) g hG hd hm hQ ops.size 0 _ ι a w (by omega) (by simp) (fun j => by rw [z]; simp) (h0 w rfl) hf ha rfl
end
end Go.Ev
