/-
  Layers 42, 43 (agency, exchange) in plain Lean: records, files, partners; what the functions compute. No program in sight.
-/
import Derived.Test.YtmjbbpappigngaaGreatMap
import Derived.Test.YtmjbbpappigngaaGreatDeep
namespace Go.Tw.Exc
open Go.RowKit

structure Rec where
  k : Int
  key : ByteArray
  t : Int
  c : Int
  y : Int
structure Fil where
  fr : ByteArray
  to : ByteArray
  sq : Int
  rs : List Rec
structure Par where
  nm : ByteArray
  out : Int
  inn : Int
  wt : List Fil
  ours : List Rec
  thr : List Rec
def tRec : Ty Rec := (tInt.pair (tStr.pair (tInt.pair (tInt.pair tInt)))).via fun r => (r.k, r.key, r.t, r.c, r.y)
def tFil : Ty Fil := (tStr.pair (tStr.pair (tInt.pair (tRec.list 49)))).via fun r => (r.fr, r.to, r.sq, r.rs)
def tPar : Ty Par := (tStr.pair (tInt.pair (tInt.pair ((tFil.list 45).pair ((tRec.list 49).pair (tRec.list 49)))))).via fun r => (r.nm, r.out, r.inn, r.wt, r.ours, r.thr)

def recCells (r : Rec) : List Value := [.int .i64 r.k, .string r.key, .int .i64 r.t, .int .i64 r.c, .int .i64 r.y]
structure RecOk (r : Rec) : Prop where
  k : i64ok r.k
  key : r.key.size ≤ maxLen
  t : i64ok r.t
  c : i64ok r.c
  y : i64ok r.y
theorem tRec_is {S : Nat → Prop} {w : World} {cs : List Value} {r : Rec} (h : tRec.is S w cs r) : cs = recCells r ∧ RecOk r := by
  obtain ⟨_, _, rfl, ⟨rfl, h1⟩, _, _, rfl, ⟨rfl, h2⟩, _, _, rfl, ⟨rfl, h3⟩, _, _, rfl, ⟨rfl, h4⟩, ⟨rfl, h5⟩⟩ := h
  exact ⟨rfl, h1, h2, h3, h4, h5⟩
theorem tRec_mk {S : Nat → Prop} {w : World} {r : Rec} (h : RecOk r) : tRec.is S w (recCells r) r :=
  ⟨[_], _, rfl, ⟨rfl, h.k⟩, [_], _, rfl, ⟨rfl, h.key⟩, [_], _, rfl, ⟨rfl, h.t⟩, [_], [_], rfl, ⟨rfl, h.c⟩, rfl, h.y⟩
theorem tRec_own {F : List Nat} {w : World} {cs : List Value} {r : Rec} (h : tRec.own F w cs r) : F = [] ∧ cs = recCells r ∧ RecOk r := by
  obtain ⟨_, _, _, _, rfl, rfl, ⟨rfl, rfl, h1⟩, _, _, _, _, rfl, rfl, ⟨rfl, rfl, h2⟩, _, _, _, _, rfl, rfl, ⟨rfl, rfl, h3⟩, _, _, _, _, rfl, rfl, ⟨rfl, rfl, h4⟩, ⟨rfl, rfl, h5⟩⟩ := h
  exact ⟨rfl, rfl, h1, h2, h3, h4, h5⟩
theorem tRec_own_mk {w : World} {r : Rec} (h : RecOk r) : tRec.own [] w (recCells r) r :=
  ⟨[_], _, [], [], rfl, rfl, ⟨rfl, rfl, h.k⟩, [_], _, [], [], rfl, rfl, ⟨rfl, rfl, h.key⟩, [_], _, [], [], rfl, rfl, ⟨rfl, rfl, h.t⟩, [_], [_], [], [], rfl, rfl, ⟨rfl, rfl, h.c⟩, rfl, rfl, h.y⟩
theorem ownRec {w w' : World} {cs : List Value} {x : Rec} {S : Nat → Prop} (h : tRec.is S w cs x) : tRec.own [] w' cs x := by
  obtain ⟨rfl, hh⟩ := tRec_is h
  exact tRec_own_mk hh

/-- a file's cells: its Records is the slice value h -/
def filCells (i : Fil) (h : Value) : List Value := [.string i.fr, .string i.to, .int .i64 i.sq, h]
structure FilOk (S : Nat → Prop) (w : World) (i : Fil) (h : Value) : Prop where
  fr : i.fr.size ≤ maxLen
  to : i.to.size ≤ maxLen
  sq : i64ok i.sq
  rs : SlIs tRec S w h i.rs
theorem tFil_is {S : Nat → Prop} {w : World} {cs : List Value} {r : Fil} (h : tFil.is S w cs r) : ∃ v, cs = filCells r v ∧ FilOk S w r v := by
  obtain ⟨_, _, rfl, ⟨rfl, h1⟩, _, _, rfl, ⟨rfl, h2⟩, _, _, rfl, ⟨rfl, h3⟩, ⟨v, rfl, h4⟩⟩ := h
  exact ⟨v, rfl, h1, h2, h3, h4⟩
theorem tFil_mk {S : Nat → Prop} {w : World} {r : Fil} {v : Value} (h : FilOk S w r v) : tFil.is S w (filCells r v) r :=
  ⟨[_], _, rfl, ⟨rfl, h.fr⟩, [_], _, rfl, ⟨rfl, h.to⟩, [_], [_], rfl, ⟨rfl, h.sq⟩, v, rfl, h.rs⟩
theorem tFil_own_mk {F : List Nat} {w : World} {r : Fil} {v : Value} (h : OwnL tRec 49 F w v r.rs) (h1 : r.fr.size ≤ maxLen) (h2 : r.to.size ≤ maxLen) (h3 : i64ok r.sq) : tFil.own F w (filCells r v) r :=
  ⟨[_], _, [], F, rfl, rfl, ⟨rfl, rfl, h1⟩, [_], _, [], F, rfl, rfl, ⟨rfl, rfl, h2⟩, [_], _, [], F, rfl, rfl, ⟨rfl, rfl, h3⟩, v, rfl, h⟩
theorem FilOk.keep {S S' : Nat → Prop} {w w' : World} {i : Fil} {h : Value} (o : FilOk S w i h) (hs : ∀ k, S k → S' k) (hw : SameOn S w w') : FilOk S' w' i h := ⟨o.fr, o.to, o.sq, o.rs.keep hs hw⟩
theorem FilOk.step {W w : World} {i : Fil} {h : Value} (o : FilOk (· < W.heap.size) W i h) (hb : Below W.heap.size W w) : FilOk (· < w.heap.size) w i h := ⟨o.fr, o.to, o.sq, o.rs.step hb⟩

/-- a partner's value -/
def parVal (p : Par) (vw vo vt : Value) : Value := .agg #[.string p.nm, .int .i64 p.out, .int .i64 p.inn, vw, vo, vt]
structure ParOk (S : Nat → Prop) (w : World) (p : Par) (vw vo vt : Value) : Prop where
  nm : p.nm.size ≤ maxLen
  out : i64ok p.out
  inn : i64ok p.inn
  wt : SlIs tFil S w vw p.wt
  ours : SlIs tRec S w vo p.ours
  thr : SlIs tRec S w vt p.thr
theorem tPar_is {S : Nat → Prop} {w : World} {cs : List Value} {p : Par} (h : tPar.is S w cs p) : ∃ vw vo vt, cs = [.string p.nm, .int .i64 p.out, .int .i64 p.inn, vw, vo, vt] ∧ ParOk S w p vw vo vt := by
  obtain ⟨_, _, rfl, ⟨rfl, h1⟩, _, _, rfl, ⟨rfl, h2⟩, _, _, rfl, ⟨rfl, h3⟩, _, _, rfl, ⟨vw, rfl, h4⟩, _, _, rfl, ⟨vo, rfl, h5⟩, ⟨vt, rfl, h6⟩⟩ := h
  exact ⟨vw, vo, vt, rfl, h1, h2, h3, h4, h5, h6⟩
theorem ParOk.keep {S S' : Nat → Prop} {w w' : World} {p : Par} {a b c : Value} (o : ParOk S w p a b c) (hs : ∀ k, S k → S' k) (hw : SameOn S w w') : ParOk S' w' p a b c := ⟨o.nm, o.out, o.inn, o.wt.keep hs hw, o.ours.keep hs hw, o.thr.keep hs hw⟩
theorem ParOk.step {W w : World} {p : Par} {a b c : Value} (o : ParOk (· < W.heap.size) W p a b c) (hb : Below W.heap.size W w) : ParOk (· < w.heap.size) w p a b c := ⟨o.nm, o.out, o.inn, o.wt.step hb, o.ours.step hb, o.thr.step hb⟩

/-! ### The cells -/
theorem rec_open {S : Nat → Prop} {w : World} {v : Value} {l : List Rec} (h : SlIs tRec S w v l) :
    ∃ ao cap b off, v = .slice ao l.length cap ∧ l.length ≤ cap ∧ cap ≤ maxLen ∧ ∀ w', SameOn S w w' → ∀ k (_ : k < l.length), ao = some ⟨b, off, none⟩ ∧ S b ∧ b < w.heap.size ∧ RecOk l[k] ∧
      w'.cell? ⟨b, off + k * 5, none⟩ = some (.int .i64 l[k].k) ∧ w'.cell? ⟨b, off + k * 5 + 1, none⟩ = some (.string l[k].key) ∧ w'.cell? ⟨b, off + k * 5 + 2, none⟩ = some (.int .i64 l[k].t) ∧ w'.cell? ⟨b, off + k * 5 + 3, none⟩ = some (.int .i64 l[k].c) ∧ w'.cell? ⟨b, off + k * 5 + 4, none⟩ = some (.int .i64 l[k].y) := by
  obtain ⟨ao, cap, b, off, hv, h1, h2, h3⟩ := h.openS
  refine ⟨ao, cap, b, off, hv, h1, h2, fun w' hw k hk => ?_⟩
  obtain ⟨g1, g2, g2', cs, g3, g4⟩ := h3 w' hw k hk
  obtain ⟨rfl, g5⟩ := tRec_is g4
  have := cells5 (f := fun j => w'.cell? ⟨b, off + k * 5 + j, none⟩) g3
  exact ⟨g1, g2, g2', g5, this⟩
theorem fil_open {S : Nat → Prop} {w : World} {v : Value} {l : List Fil} (h : SlIs tFil S w v l) :
    ∃ ao cap b off, v = .slice ao l.length cap ∧ l.length ≤ cap ∧ cap ≤ maxLen ∧ ∀ w', SameOn S w w' → ∀ k (_ : k < l.length), ao = some ⟨b, off, none⟩ ∧ S b ∧ b < w.heap.size ∧ ∃ hv, FilOk S w' l[k] hv ∧
      w'.cell? ⟨b, off + k * 4, none⟩ = some (.string l[k].fr) ∧ w'.cell? ⟨b, off + k * 4 + 1, none⟩ = some (.string l[k].to) ∧ w'.cell? ⟨b, off + k * 4 + 2, none⟩ = some (.int .i64 l[k].sq) ∧ w'.cell? ⟨b, off + k * 4 + 3, none⟩ = some hv := by
  obtain ⟨ao, cap, b, off, hv, h1, h2, h3⟩ := h.openS
  refine ⟨ao, cap, b, off, hv, h1, h2, fun w' hw k hk => ?_⟩
  obtain ⟨g1, g2, g2', cs, g3, g4⟩ := h3 w' hw k hk
  obtain ⟨hv, rfl, g5⟩ := tFil_is g4
  have := cells4 (f := fun j => w'.cell? ⟨b, off + k * 4 + j, none⟩) g3
  exact ⟨g1, g2, g2', hv, g5, this⟩

/-! ### What the functions compute -/
/-- the i-th byte of a name -/
def nb (i : Nat) (b : UInt8) : Prop := (97 ≤ b.toNat ∧ b.toNat ≤ 122) ∨ (0 < i ∧ (b.toNat = 45 ∨ (48 ≤ b.toNat ∧ b.toNat ≤ 57)))
def nameP (s : ByteArray) : Prop := 1 ≤ s.size ∧ s.size ≤ 12 ∧ ∀ i (h : i < s.size), nb i s[i]
open Classical in
noncomputable def nameC (s : ByteArray) : Bool := decide (nameP s)
theorem name_yes {s : ByteArray} (h : nameP s) : nameC s = true := by simp [nameC, h]
theorem name_no {s : ByteArray} (h : ¬ nameP s) : nameC s = false := by simp [nameC, h]
def fieldP (s : ByteArray) : Prop := s.size ≠ 0 ∧ ∀ i (h : i < s.size), 33 ≤ s[i].toNat ∧ s[i].toNat ≤ 126
open Classical in
noncomputable def fieldC (s : ByteArray) : Bool := decide (fieldP s)
theorem field_yes {s : ByteArray} (h : fieldP s) : fieldC s = true := by simp [fieldC, h]
theorem field_no {s : ByteArray} (h : ¬ fieldP s) : fieldC s = false := by simp [fieldC, h]
def fits (n : Int) : Bool := decide (-1125899906842624 ≤ n) && decide (n ≤ 1125899906842624)
noncomputable def headC (fr to : ByteArray) (sq : Int) : Int :=
  if nameC fr = false ∨ nameC to = false then 6 else if fr = to then 30 else if sq < 1 ∨ 2147483648 < sq then 31 else 0
noncomputable def rightC (r : Rec) : Int :=
  if r.k < 1 ∨ 4 < r.k then 1 else if fieldC r.key = false then 5 else if 256 < r.key.size then 4 else if r.t < 0 ∨ 68719476736 ≤ r.t then 12
  else if r.k = 3 then (if r.c ≠ 0 ∨ r.y < 0 ∨ 99 < r.y then 1 else 0) else if fits r.c = false then 13 else if r.y ≠ 0 then 1 else 0
noncomputable def rightsC : List Rec → Int
  | [] => 0
  | r :: l => if rightC r ≠ 0 then rightC r else rightsC l
def isAmt (r : Rec) : Bool := r.k == 1 || r.k == 2
/-- the charges and corrections -/
def amts (l : List Rec) : List Int := (l.filter isAmt).map (·.c)
def sumZ : List Int → Int := fun l => l.foldl (· + ·) 0
noncomputable def checkC (f : Fil) : Int :=
  if headC f.fr f.to f.sq ≠ 0 then headC f.fr f.to f.sq else if 1024 < f.rs.length then 3 else if rightsC f.rs ≠ 0 then rightsC f.rs else if fits (sumZ (amts f.rs)) then 0 else 13
def zeroF : Fil := ⟨ByteArray.empty, ByteArray.empty, 0, []⟩
noncomputable def sendC (p : Par) (fr : ByteArray) (l : List Rec) : Par × Fil × Int :=
  if checkC ⟨fr, p.nm, p.out, l⟩ ≠ 0 then (p, zeroF, checkC ⟨fr, p.nm, p.out, l⟩)
  else if 1024 ≤ p.wt.length ∨ 1024 < p.ours.length + l.length then (p, zeroF, 3)
  else ({ p with out := p.out + 1, wt := p.wt ++ [⟨fr, p.nm, p.out, l⟩], ours := p.ours ++ l }, ⟨fr, p.nm, p.out, l⟩, 0)
noncomputable def recvC (p : Par) (f : Fil) : Par × Int :=
  if checkC f ≠ 0 then (p, checkC f) else if f.fr ≠ p.nm then (p, 30) else if p.inn < f.sq then (p, 31) else if f.sq ≠ p.inn then (p, 0)
  else if 1024 < p.thr.length + f.rs.length then (p, 3) else ({ p with inn := p.inn + 1, thr := p.thr ++ f.rs }, 0)
def ackC (p : Par) (sq : Int) : Par × Int :=
  if sq < 0 ∨ p.out ≤ sq then (p, 31) else ({ p with wt := p.wt.filter fun f => decide (sq < f.sq) }, 0)
def zeroP : Par := ⟨ByteArray.empty, 0, 0, [], [], []⟩
noncomputable def newC (nm : ByteArray) : Par × Int := if nameC nm = false then (zeroP, 6) else (⟨nm, 1, 1, [], [], []⟩, 0)
def afterC (n : Int) (r : Rec) : Int := if r.k = 1 ∨ r.k = 2 then n + r.c else if r.k = 4 then n - r.c else if r.k = 3 then 0 else n
def amountC (l : List Rec) (key : ByteArray) : Int := (l.filter fun r => r.key = key).foldl afterC 0

theorem sumZ_snoc (l : List Int) (x : Int) : sumZ (l ++ [x]) = sumZ l + x := by unfold sumZ; rw [List.foldl_append]; rfl
theorem amts_snoc (l : List Rec) (r : Rec) : amts (l ++ [r]) = if isAmt r then amts l ++ [r.c] else amts l := by
  unfold amts
  rw [List.filter_append, List.map_append]
  by_cases h : isAmt r <;> simp [h]
theorem rights_drop {l : List Rec} {k : Nat} (h : k < l.length) : rightsC (l.drop k) = if rightC l[k] ≠ 0 then rightC l[k] else rightsC (l.drop (k + 1)) := by
  rw [List.drop_eq_getElem_cons h, rightsC]
theorem rights_end {l : List Rec} {k : Nat} (h : l.length ≤ k) : rightsC (l.drop k) = 0 := by rw [List.drop_eq_nil_of_le h]; rfl
theorem rights_ok : ∀ {l : List Rec}, rightsC l = 0 → ∀ r ∈ l, rightC r = 0
  | [], _, r, hr => by cases hr
  | x :: l, h, r, hr => by
    rw [rightsC] at h
    by_cases q : rightC x = 0
    · rw [if_neg (by simp [q])] at h
      rcases List.mem_cons.1 hr with rfl | hr
      · exact q
      · exact rights_ok h r hr
    · rw [if_pos q] at h; exact absurd h q
theorem right_fits {r : Rec} (h : rightC r = 0) (ha : isAmt r = true) : -1125899906842624 ≤ r.c ∧ r.c ≤ 1125899906842624 := by
  unfold isAmt at ha
  simp only [Bool.or_eq_true, beq_iff_eq] at ha
  unfold rightC at h
  rw [if_neg (by omega)] at h
  split at h
  · cases h
  split at h
  · cases h
  split at h
  · cases h
  rw [if_neg (by omega)] at h
  split at h
  · cases h
  · rename_i q
    unfold fits at q
    simp only [Bool.and_eq_false_iff, decide_eq_false_iff_not] at q
    omega
end Go.Tw.Exc
