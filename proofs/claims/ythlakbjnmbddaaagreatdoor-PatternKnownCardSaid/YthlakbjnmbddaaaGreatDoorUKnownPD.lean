/- Merged texts, part of the proof KnownP: AnyI, Clss, BrA, BrB, BrW, Item, Brack, RndL, AppL, Fine, Work10, SameN, Qa, Qb, Qc. -/
import Derived.Test.YthlakbjnmbddaaaGreatDoorUKnownPA
import Derived.Test.YthlakbjnmbddaaaGreatDoorUKnownPB
import Derived.Test.YthlakbjnmbddaaaGreatDoorUKnownPC
import Derived.RegionTactic
import Derived.MapKept
import Derived.Laws.EntriesVeiled
import Derived.Laws.Bits64
import Derived.Deep.DeepCutAuto
import Derived.Deep.RegionWith
import Derived.Laws.Strings2
import Derived.Deep.QuietTactic
import Derived.BigQuiet
/- A region in whatever order, by one condition on what has been done, the frame, the world. Plain. -/
set_option linter.unusedVariables false
set_option linter.unusedSimpArgs false
namespace Go.Proofs.YthlakbjnmbddaaaGreatDoor
open Go.RowKit

/-- One operation more is done. -/
def upd (L : Nat → Bool) (i : Nat) (j : Nat) : Bool := j == i || L j
/-- What one operation must do. -/
def StepOk (P : Program) (md : Region.Mode) (Q : Exit → Act → World → Prop) (I : (Nat → Bool) → Act → World → Prop) (i : Nat) (o : Oper) : Prop :=
  o.guard = none ∧ (∀ e ∈ o.after, e.on < i) ∧
    ∀ (L : Nat → Bool) (a : Act) (w : World), I L a w → L i = false → (∀ e ∈ o.after, Region.binds md e = true → L e.on = true) → o.wp P a w (fun a' w' => I (upd L i) a' w') Q
theorem getD_true {l : Array Bool} {j : Nat} (h : j < l.size) : l.getD j true = l.getD j false := by simp [Array.getD, h]
theorem wpAny_inv {P : Program} {md : Region.Mode} {ops : Array Oper} {Q : Exit → Act → World → Prop} (I : (Nat → Bool) → Act → World → Prop)
    (hstep : ∀ (i : Nat) (o : Oper), ops[i]? = some o → StepOk P md Q I i o)
    (hend : ∀ (L : Nat → Bool) (a : Act) (w : World), I L a w → (∀ i < ops.size, L i = true) → Q .normal a w) :
    ∀ (fuel : Nat) (listed : Array Bool) (a : Act) (w : World), listed.size = ops.size → (listed.toList.filter (fun b => !b)).length ≤ fuel → I (fun j => listed.getD j false) a w → wpAny P md ops Q fuel listed a w := by
  have hall : ∀ (listed : Array Bool), listed.size = ops.size → Region.ready md ops listed = [] → ∀ n i, i < n → i < ops.size → listed.getD i false = true := fun listed hs hr n => by
    induction n with
    | zero => intro i h; omega
    | succ n ih =>
      intro i h hi
      by_cases hn : i < n
      · exact ih i hn hi
      · have hin : i = n := by omega
        subst hin
        cases hb : listed.getD i false with
        | true => rfl
        | false =>
          exfalso
          have ho : ops[i]? = some ops[i] := Array.getElem?_eq_getElem hi
          obtain ⟨_, hlt, _⟩ := hstep i _ ho
          have hm : i ∈ Region.ready md ops listed := by
            refine mem_ready.2 ⟨by rw [getD_true (by omega)]; exact hb, _, ho, fun e he _ => ?_⟩
            have := ih e.on (hlt e he) (by have := hlt e he; omega)
            exact this
          rw [hr] at hm
          cases hm
  intro fuel
  induction fuel with
  | zero =>
    intro listed a w hs hc hI
    have hno : ∀ i < ops.size, listed.getD i false = true := fun i hi => by
      have h0 : listed.toList.filter (fun b => !b) = [] := List.eq_nil_of_length_eq_zero (by omega)
      have h1 := List.filter_eq_nil_iff.1 h0 (listed[i]) (by simp)
      have h2 : listed[i] = true := by simpa using h1
      simp [Array.getD, show i < listed.size by omega, h2]
    refine ⟨?_, hend _ a w hI hno⟩
    cases hr : Region.ready md ops listed with
    | nil => rfl
    | cons i l =>
      have hi : i ∈ Region.ready md ops listed := by rw [hr]; exact List.mem_cons_self ..
      obtain ⟨h1, o, ho, _⟩ := mem_ready.1 hi
      have hlt := (Array.getElem?_eq_some_iff.1 ho).1
      rw [getD_true (by omega), hno i hlt] at h1
      cases h1
  | succ fuel ih =>
    intro listed a w hs hc hI
    refine ⟨fun hr => hend _ a w hI (fun i hi => hall listed hs hr (i + 1) i (by omega) hi), fun i hi => ?_⟩
    obtain ⟨h1, o, ho, h2⟩ := mem_ready.1 hi
    have hlt := (Array.getElem?_eq_some_iff.1 ho).1
    have h1' : listed.getD i false = false := by rw [← getD_true (by omega)]; exact h1
    obtain ⟨hg, _, hst⟩ := hstep i o ho
    have h3 := hst _ a w hI h1' (fun e he hb => h2 e he hb)
    have h4 : wpOp P ops Q i (fun a' w' => I (upd (fun j => listed.getD j false) i) a' w') a w := by
      unfold wpOp
      rw [ho]
      simp only [Region.wanted, hg, if_true]
      exact .inl h3
    refine wpOp_mono (fun a' w' h => ih (listed.setIfInBounds i true) a' w' (by simpa using hs) ?_ ?_) h4
    · have : ∀ (l : List Bool) (i : Nat), l[i]? = some false → ((l.set i true).filter (fun b => !b)).length + 1 = (l.filter (fun b => !b)).length := by
        intro l
        induction l with
        | nil => intro i h; simp at h
        | cons b l ihl =>
          intro i h
          cases i with
          | zero => simp at h; subst h; simp
          | succ i =>
            simp at h
            have := ihl i h
            cases b <;> simp at this ⊢ <;> omega
      have hx := this listed.toList i (by
        have : listed[i]? = some false := by
          simp only [Array.getD, show i < listed.size by omega, dif_pos] at h1'
          rw [Array.getElem?_eq_getElem (by omega)]
          exact congrArg some h1'
        simpa using this)
      rw [Array.toList_setIfInBounds]
      omega
    · have e : (fun j => (listed.setIfInBounds i true).getD j false) = upd (fun j => listed.getD j false) i := by
        funext j
        unfold upd
        by_cases hj : j = i
        · subst hj; simp [Array.getD, show j < listed.size by omega]
        · have : (j == i) = false := by simpa using hj
          rw [this, Bool.false_or]
          simp only [Array.getD, Array.size_setIfInBounds]
          split
          · rename_i h5; exact Array.getElem_setIfInBounds_ne h5 (Ne.symm hj)
          · rfl
      rw [e]
      exact h
/-- The operations, one by one. -/
theorem steps_nil {C : Nat → Oper → Prop} {n : Nat} : ∀ (i : Nat) (o : Oper), ([] : List Oper)[i]? = some o → C (n + i) o := fun i o h => by simp at h
theorem steps_cons {C : Nat → Oper → Prop} {n : Nat} {o : Oper} {l : List Oper} (h : C n o) (k : ∀ (i : Nat) (o : Oper), l[i]? = some o → C (n + 1 + i) o) : ∀ (i : Nat) (o' : Oper), (o :: l)[i]? = some o' → C (n + i) o'
  | 0, o', e => by simp at e; subst e; exact h
  | i + 1, o', e => by
    have := k i o' (by simpa using e)
    rw [show n + (i + 1) = n + 1 + i by omega]
    exact this
theorem steps_start {C : Nat → Oper → Prop} {l : List Oper} (h : ∀ (i : Nat) (o : Oper), l[i]? = some o → C (0 + i) o) : ∀ (i : Nat) (o : Oper), l[i]? = some o → C i o := fun i o e => by have := h i o e; rwa [Nat.zero_add] at this
end Go.Proofs.YthlakbjnmbddaaaGreatDoor

/- The table of classes: walked. (Printed by wip/genclss.py.) -/
set_option linter.unusedVariables false
set_option linter.unusedSimpArgs false
namespace Go.Proofs.YthlakbjnmbddaaaGreatDoor
open Go.RowKit

/-- What an operation of the table leaves. -/
inductive CK where
  | mk
  | fn (f : Nat → Bool)
  | sl (fs : List (Nat → Bool))
  | ins (name : Bs) (f : Nat → Bool)
  | cp
def CK.name : CK → Bs
  | .ins n _ => n
  | _ => []
def CK.needs : CK → Bool
  | .ins _ _ => true
  | .cp => true
  | _ => false
def CK.isMk : CK → Bool
  | .mk => true
  | _ => false
def CK.isVal : CK → Bool
  | .fn _ => true
  | .sl _ => true
  | _ => false
def ckinds : List (Option Nat × CK) := [
  (some 15, .mk),
  (some 16, .fn (betF 65 90)),
  (none, .ins [117, 112, 112, 101, 114] (betF 65 90)),
  (some 17, .fn (betF 97 122)),
  (none, .ins [108, 111, 119, 101, 114] (betF 97 122)),
  (some 18, .fn (betF 48 57)),
  (none, .ins [100, 105, 103, 105, 116] (betF 48 57)),
  (some 19, .fn (anyF [betF 65 90, betF 97 122, betF 48 57])),
  (none, .ins [97, 108, 110, 117, 109] (anyF [betF 65 90, betF 97 122, betF 48 57])),
  (some 20, .fn (betF 33 126)),
  (none, .ins [103, 114, 97, 112, 104] (betF 33 126)),
  (some 21, .fn (betF 65 90)),
  (some 22, .fn (betF 97 122)),
  (some 23, .sl [betF 65 90, betF 97 122]),
  (some 24, .fn (anyF [betF 65 90, betF 97 122])),
  (none, .ins [97, 108, 112, 104, 97] (anyF [betF 65 90, betF 97 122])),
  (some 25, .fn (betF 48 57)),
  (some 26, .fn (betF 65 70)),
  (some 27, .fn (betF 97 102)),
  (some 28, .sl [betF 48 57, betF 65 70, betF 97 102]),
  (some 29, .fn (anyF [betF 48 57, betF 65 70, betF 97 102])),
  (none, .ins [120, 100, 105, 103, 105, 116] (anyF [betF 48 57, betF 65 70, betF 97 102])),
  (some 30, .fn (betF 9 13)),
  (some 31, .fn (betF 32 32)),
  (some 32, .sl [betF 9 13, betF 32 32]),
  (some 33, .fn (anyF [betF 9 13, betF 32 32])),
  (none, .ins [115, 112, 97, 99, 101] (anyF [betF 9 13, betF 32 32])),
  (some 34, .fn (betF 9 9)),
  (some 35, .fn (betF 32 32)),
  (some 36, .sl [betF 9 9, betF 32 32]),
  (some 37, .fn (anyF [betF 9 9, betF 32 32])),
  (none, .ins [98, 108, 97, 110, 107] (anyF [betF 9 9, betF 32 32])),
  (some 38, .fn (betF 0 31)),
  (some 39, .fn (betF 127 127)),
  (some 40, .sl [betF 0 31, betF 127 127]),
  (some 41, .fn (anyF [betF 0 31, betF 127 127])),
  (none, .ins [99, 110, 116, 114, 108] (anyF [betF 0 31, betF 127 127])),
  (some 42, .fn (betF 32 126)),
  (none, .ins [112, 114, 105, 110, 116] (betF 32 126)),
  (some 43, .fn (butF (betF 33 126) (anyF [betF 65 90, betF 97 122, betF 48 57]))),
  (none, .ins [112, 117, 110, 99, 116] (butF (betF 33 126) (anyF [betF 65 90, betF 97 122, betF 48 57]))),
  (some 44, .cp),
  (some 0, .cp)]
def ckdst : List (Option Nat) := [some 15, some 16, none, some 17, none, some 18, none, some 19, none, some 20, none, some 21, some 22, some 23, some 24, none, some 25, some 26, some 27, some 28, some 29, none, some 30, some 31, some 32, some 33, none, some 34, some 35, some 36, some 37, none, some 38, some 39, some 40, some 41, none, some 42, none, some 43, none, some 44, some 0]
def cknames : List Bs := [[], [], [117, 112, 112, 101, 114], [], [108, 111, 119, 101, 114], [], [100, 105, 103, 105, 116], [], [97, 108, 110, 117, 109], [], [103, 114, 97, 112, 104], [], [], [], [], [97, 108, 112, 104, 97], [], [], [], [], [], [120, 100, 105, 103, 105, 116], [], [], [], [], [115, 112, 97, 99, 101], [], [], [], [], [98, 108, 97, 110, 107], [], [], [], [], [99, 110, 116, 114, 108], [], [112, 114, 105, 110, 116], [], [112, 117, 110, 99, 116], [], []]
theorem ckdst_eq : ckinds.map Prod.fst = ckdst := rfl
theorem cknames_eq : ckinds.map (fun x => x.2.name) = cknames := rfl
theorem one_of {α : Type} [DecidableEq α] (l : List α) (x : α) (h : ((List.range 43).all fun i => (List.range 43).all fun j => !(decide (l[i]? = l[j]?)) || decide (l[i]? = some x) || decide (i = j)) = true) :
    ∀ i < 43, ∀ j < 43, l[i]? = l[j]? → l[i]? ≠ some x → i = j := by
  intro i hi j hj h1 h2
  have h3 := List.all_eq_true.1 (List.all_eq_true.1 h i (List.mem_range.2 hi)) j (List.mem_range.2 hj)
  simpa [h1, h1 ▸ h2] using h3
theorem ckdst_ok : ∀ i < 43, ∀ j < 43, ckdst[i]? = ckdst[j]? → ckdst[i]? ≠ some none → i = j := one_of _ _ (by decide +kernel)
theorem ckdst_far : ∀ d ∈ ckdst, ∀ n ∈ [1, 2, 3, 4, 5], d ≠ some n := by decide +kernel
theorem ckdst_lt : ∀ d ∈ ckdst, ∀ n, d = some n → n < 45 := by
  intro d hd n e
  subst e
  have : ∀ d ∈ ckdst, (match d with | some n => decide (n < 45) | none => true) = true := by decide +kernel
  simpa using this _ hd
theorem cknames_ok : ∀ i < 43, ∀ j < 43, cknames[i]? = cknames[j]? → cknames[i]? ≠ some [] → i = j := one_of _ _ (by decide +kernel)
theorem ckmk_ok : ∀ i < 43, (ckinds.map fun x => x.2.isMk)[i]? = some true → i = 0 := by decide +kernel
theorem ck_lt {i : Nat} {x : Option Nat × CK} (h : ckinds[i]? = some x) : i < 43 := (List.getElem?_eq_some_iff.1 h).1
theorem ck_dst {i : Nat} {x : Option Nat × CK} (h : ckinds[i]? = some x) : ckdst[i]? = some x.1 := by rw [← ckdst_eq, List.getElem?_map, h]; rfl
theorem ck_name {i : Nat} {x : Option Nat × CK} (h : ckinds[i]? = some x) : cknames[i]? = some x.2.name := by rw [← cknames_eq, List.getElem?_map, h]; rfl
theorem ck_mk {i d : Nat} (h : ckinds[i]? = some (some d, .mk)) : i = 0 := ckmk_ok i (ck_lt h) (by rw [List.getElem?_map, h]; rfl)
theorem ck_one {i j d : Nat} {k k' : CK} (h : ckinds[i]? = some (some d, k)) (h' : ckinds[j]? = some (some d, k')) : i = j :=
  ckdst_ok i (ck_lt h) j (ck_lt h') (by rw [ck_dst h, ck_dst h']) (by rw [ck_dst h]; simp)
theorem ck_far {i d : Nat} {k : CK} (h : ckinds[i]? = some (some d, k)) : d ≠ 1 ∧ d ≠ 2 ∧ d ≠ 3 ∧ d ≠ 4 ∧ d ≠ 5 ∧ d < 45 := by
  have hm : some d ∈ ckdst := List.mem_of_getElem? (ck_dst h)
  have := ckdst_far _ hm
  simp only [List.mem_cons, List.not_mem_nil, or_false, forall_eq_or_imp, forall_eq, ne_eq, Option.some.injEq] at this
  exact ⟨this.1, this.2.1, this.2.2.1, this.2.2.2.1, this.2.2.2.2, ckdst_lt _ hm d rfl⟩

theorem ckno_ok : ((List.range 43).all fun i => !(decide (ckdst[i]? = some none)) || !(decide (cknames[i]? = some []))) = true := by decide +kernel
theorem ck_name_one {i j : Nat} {n : Bs} {f g : Nat → Bool} (h : ckinds[i]? = some (none, .ins n f)) (h' : ckinds[j]? = some (none, .ins n g)) : i = j := by
  refine cknames_ok i (ck_lt h) j (ck_lt h') ((ck_name h).trans (ck_name h').symm) fun e => ?_
  have := List.all_eq_true.1 ckno_ok i (List.mem_range.2 (ck_lt h))
  rw [ck_dst h, e] at this
  simp at this

def SlOk (w : World) (v : Value) (fs : List (Nat → Bool)) : Prop :=
  ∃ (b : Nat) (vs : List Value), v = .slice (some ⟨b, 0, none⟩) vs.length vs.length ∧ CellsAt w b vs.toArray ∧ fs.length = vs.length ∧ ∀ (i : Nat) (v : Value) (f : Nat → Bool), vs[i]? = some v → fs[i]? = some f → FnOf w v f
theorem SlOk.later {w w' : World} {v : Value} {fs : List (Nat → Bool)} (h : SlOk w v fs) (k : CExt w w') : SlOk w' v fs := by
  obtain ⟨b, vs, e, hc, hl, hf⟩ := h
  exact ⟨b, vs, e, hc.later k, hl, fun i v f h1 h2 => (hf i v f h1 h2).later k⟩
def SlotOk (mv : Value) (w : World) (v : Value) : CK → Prop
  | .mk => v = mv
  | .cp => v = mv
  | .fn f => FnOf w v f
  | .sl fs => SlOk w v fs
  | .ins _ _ => True
theorem SlotOk.later {mv v : Value} {w w' : World} {k : CK} (h : SlotOk mv w v k) (e : CExt w w') : SlotOk mv w' v k := by
  cases k with
  | mk => exact h
  | cp => exact h
  | fn f => exact FnOf.later h e
  | sl fs => exact SlOk.later h e
  | ins _ _ => trivial
/-- The map holds what has been put in. -/
def MapOk (B : Nat) (mv : Value) (w : World) (L : Nat → Bool) : Prop :=
  ∃ (r : Nat) (es : Array MapEntry) (clock : Nat), mv = .map (some r) ∧ w.heap[r]? = some (.map es clock) ∧ B ≤ r ∧
    (∀ x ∈ es.toList, ∃ (j : Nat) (name : Bs) (f : Nat → Bool), ckinds[j]? = some (none, .ins name f) ∧ L j = true ∧ x.key = .string (bs name) ∧ FnOf w x.val f) ∧
    ∀ (j : Nat) (name : Bs) (f : Nat → Bool), ckinds[j]? = some (none, .ins name f) → L j = true → ∃ x ∈ es.toList, x.key = .string (bs name)
theorem MapOk.later {B : Nat} {mv : Value} {w w' : World} {L : Nat → Bool} (h : MapOk B mv w L) (k : Below w.heap.size w w') : MapOk B mv w' L := by
  obtain ⟨r, es, clock, e, hr, hB, h1, h2⟩ := h
  refine ⟨r, es, clock, e, (k.block r (Array.getElem?_eq_some_iff.1 hr).1).trans hr, hB, fun x hx => ?_, h2⟩
  obtain ⟨j, n, f, a, b, c, d⟩ := h1 x hx
  exact ⟨j, n, f, a, b, c, d.later (.of_below k)⟩
theorem MapOk.more {B : Nat} {mv : Value} {w : World} {L : Nat → Bool} (h : MapOk B mv w L) {i d : Nat} {k : CK} (hk : ckinds[i]? = some (some d, k)) : MapOk B mv w (upd L i) := by
  obtain ⟨r, es, clock, e, hr, hB, h1, h2⟩ := h
  have hne : ∀ (j : Nat) (n : Bs) (f : Nat → Bool), ckinds[j]? = some (none, .ins n f) → j ≠ i := fun j n f h e => by subst e; rw [h] at hk; cases hk
  refine ⟨r, es, clock, e, hr, hB, fun x hx => ?_, fun j n f hj hL => ?_⟩
  · obtain ⟨j, n, f, a, b, c, d⟩ := h1 x hx
    exact ⟨j, n, f, a, by simp [upd, b], c, d⟩
  · refine h2 j n f hj ?_
    have : (j == i) = false := by simpa using hne j n f hj
    rw [upd, this, Bool.false_or] at hL
    exact hL

abbrev alnumF : Nat → Bool := anyF [betF 65 90, betF 97 122, betF 48 57]
abbrev graphF : Nat → Bool := betF 33 126
/-- A pointer tu a test. -/
def PtrOk (w : World) (v : Value) (p : Nat) (f : Nat → Bool) : Prop := v = .pointer (some ⟨p, 0, none⟩) ∧ ∃ u, CellsAt w p #[u] ∧ FnOf w u f
theorem PtrOk.later {w w' : World} {v : Value} {p : Nat} {f : Nat → Bool} (h : PtrOk w v p f) (e : CExt w w') : PtrOk w' v p f := by
  obtain ⟨rfl, u, a, b⟩ := h
  exact ⟨rfl, u, a.later e, b.later e⟩
/-- What holds whatever of the table has been done. -/
structure CI (w0 : World) (p4 p5 : Nat) (L : Nat → Bool) (a : Act) (w : World) : Prop where
  bel : Below w0.heap.size w0 w
  sz : a.tmps.size = 45
  dfr : a.defers = []
  t1 : FnOf w (a.eval (.tmp 1)) (betF 65 90)
  t2 : FnOf w (a.eval (.tmp 2)) (betF 97 122)
  t3 : FnOf w (a.eval (.tmp 3)) (betF 48 57)
  t4 : PtrOk w (a.eval (.tmp 4)) p4 alnumF
  t5 : PtrOk w (a.eval (.tmp 5)) p5 graphF
  slots : ∃ mv, (∀ (i d : Nat) (k : CK), ckinds[i]? = some (some d, k) → L i = true → SlotOk mv w (a.eval (.tmp d)) k) ∧ (L 0 = true → MapOk w0.heap.size mv w L)
  early : ∀ (i : Nat) (x : Option Nat × CK), ckinds[i]? = some x → x.2.needs = true → L i = true → L 0 = true
theorem eval_put_same {a : Act} {d : Nat} {v : Value} (h : d < a.tmps.size) : (a.put (some d) v).eval (.tmp d) = v := by
  simp [Act.put, Act.eval, h]
theorem eval_put_ne {a : Act} {d e : Nat} {v : Value} (h : d ≠ e) : (a.put (some d) v).eval (.tmp e) = a.eval (.tmp e) := by
  exact Act.eval_put fun d' h' hx => h (by cases h'; cases hx; rfl)
theorem CI.fnAt {w0 w : World} {p4 p5 : Nat} {L : Nat → Bool} {a : Act} (h : CI w0 p4 p5 L a w) {i d : Nat} {f : Nat → Bool} (hk : ckinds[i]? = some (some d, .fn f)) (hL : L i = true) : FnOf w (a.eval (.tmp d)) f := by
  obtain ⟨mv, h1, _⟩ := h.slots
  exact h1 i d _ hk hL
theorem CI.value {w0 w w' : World} {p4 p5 : Nat} {L : Nat → Bool} {a : Act} (h : CI w0 p4 p5 L a w) {i d : Nat} {k : CK} {v : Value} (hk : ckinds[i]? = some (some d, k)) (hi : L i = false) (hn : k.isVal = true)
    (hv : ∀ mv, SlotOk mv w' v k) (hb : Below w.heap.size w w') : CI w0 p4 p5 (upd L i) (a.put (some d) v) w' := by
  obtain ⟨d1, d2, d3, d4, d5, dl⟩ := ck_far hk
  have hx := CExt.of_below hb
  have hi0 : i ≠ 0 := fun e => by
    subst e
    have : ckinds[0]? = some (some 15, .mk) := rfl
    rw [this] at hk; cases hk; cases hn
  obtain ⟨mv, h1, h2⟩ := h.slots
  have hupd : ∀ j, j ≠ i → upd L i j = L j := fun j hj => by simp [upd, show (j == i) = false by simpa using hj]
  refine ⟨h.bel.step hb, by simp [Act.put, h.sz], h.dfr, ?_, ?_, ?_, ?_, ?_, ⟨mv, fun j e k' hj hL => ?_, fun hL => ?_⟩, fun j x hj hx' hL => ?_⟩
  · rw [eval_put_ne d1]; exact h.t1.later hx
  · rw [eval_put_ne d2]; exact h.t2.later hx
  · rw [eval_put_ne d3]; exact h.t3.later hx
  · rw [eval_put_ne d4]; exact h.t4.later hx
  · rw [eval_put_ne d5]; exact h.t5.later hx
  · by_cases hji : j = i
    · subst hji
      rw [hk] at hj; cases hj
      rw [eval_put_same (by rw [h.sz]; exact dl)]
      exact hv mv
    · have hde : d ≠ e := fun he => hji (by subst he; exact (ck_one hk hj).symm)
      rw [eval_put_ne hde]
      rw [hupd j hji] at hL
      exact (h1 j e k' hj hL).later hx
  · rw [hupd 0 (Ne.symm hi0)] at hL
    exact ((h2 hL).later hb).more hk
  · have hji : j ≠ i := fun e' => by subst e'; rw [hk] at hj; cases hj; cases k <;> simp [CK.needs, CK.isVal] at hx' hn
    rw [hupd j hji] at hL
    rw [hupd 0 (Ne.symm hi0)]
    exact h.early j x hj hx' hL

section
variable {Q : Exit → Act → World → Prop} {w0 : World} {p4 p5 : Nat}
abbrev StC (Q : Exit → Act → World → Prop) (w0 : World) (p4 p5 : Nat) (i : Nat) (o : Oper) : Prop := StepOk Tryz.prog .any Q (CI w0 p4 p5) i o
theorem wp_val {P : Program} {o : Oper} {a : Act} {w w' : World} {K : Act → World → Prop} {v : Value} (h : (execOp a.eval o).run P w = .ok (.value v) w') (hK : K (a.put o.dst v) w') : o.wp P a w K Q := by
  unfold Oper.wp; rw [h]; exact hK
theorem wp_skip {P : Program} {o : Oper} {a : Act} {w w' : World} {K : Act → World → Prop} (h : (execOp a.eval o).run P w = .ok .skip w') (hK : K (a.put o.dst undef) w') : o.wp P a w K Q := by
  unfold Oper.wp; rw [h]; exact hK
theorem wp_call {P : Program} {o : Oper} {a : Act} {w : World} {K : Act → World → Prop} {f : FuncId} {args : Array Value} (h : (execOp a.eval o).run P w = .ok (.enter f args) w)
    (hc : Calls P f args w fun en w' => ∃ v, en = .returned v ∧ K (a.put o.dst v) w') : o.wp P a w K Q := by
  unfold Oper.wp; rw [h]
  refine Calls.mono hc ?_
  rintro en w' ⟨v, rfl, hK⟩
  exact hK

set_option maxRecDepth 100000 in
theorem cf_between (args : Array Value) (w : World) : (callFunc 168 args).run Tryz.prog w = .ok (.enter 168 args) w := by rfl
set_option maxRecDepth 100000 in
theorem cf_either (args : Array Value) (w : World) : (callFunc 169 args).run Tryz.prog w = .ok (.enter 169 args) w := by rfl
theorem run_call {f : FuncId} (hcf : ∀ (args : Array Value) (w : World), (callFunc f args).run Tryz.prog w = .ok (.enter f args) w) (a : Act) (w : World) (dst : Option Tmp) (xs : Array Operand) (ats : Array TypeId) (ty : TypeId) (pos : String) (after : Array Edge) :
    (execOp a.eval ⟨dst, .call ⟨.value (.func f), xs, ats⟩, ty, pos, after, none⟩).run Tryz.prog w = .ok (.enter f (xs.map a.eval)) w := by
  have e : execOp a.eval ⟨dst, .call ⟨.value (.func f), xs, ats⟩, ty, pos, after, none⟩ = callFunc f (#[] ++ xs.map a.eval ++ #[]) := rfl
  rw [e, hcf]
  simp
theorem st_move {i d s : Nat} {ty : TypeId} {pos : String} {after : Array Edge} {f : Nat → Bool} (hk : ckinds[i]? = some (some d, .fn f)) (ha : ∀ e ∈ after, e.on < i) (hs : True)
    (hf : ∀ (L : Nat → Bool) (a : Act) (w : World), CI w0 p4 p5 L a w → (∀ e ∈ after, Region.binds .any e = true → L e.on = true) → FnOf w (a.eval (.tmp s)) f) : StC Q w0 p4 p5 i ⟨some d, .move (.tmp s), ty, pos, after, none⟩ :=
  ⟨rfl, ha, fun L a w h hi he => wp_val (v := a.eval (.tmp s)) rfl (h.value hk hi rfl (fun _ => hf L a w h he) (Below.refl _ _))⟩
theorem st_load {i d s p : Nat} {pos : String} {after : Array Edge} {f : Nat → Bool} (hk : ckinds[i]? = some (some d, .fn f)) (ha : ∀ e ∈ after, e.on < i) (hs : True)
    (hf : ∀ (L : Nat → Bool) (a : Act) (w : World), CI w0 p4 p5 L a w → (∀ e ∈ after, Region.binds .any e = true → L e.on = true) → PtrOk w (a.eval (.tmp s)) p f) : StC Q w0 p4 p5 i ⟨some d, .load 126 (.tmp s), 126, pos, after, none⟩ :=
  ⟨rfl, ha, fun L a w h hi he => by
    obtain ⟨e, u, hc, hu⟩ := hf L a w h he
    have f0 := hc.cell 0
    simp only [List.getElem?_toArray, List.getElem?_cons_zero] at f0
    refine wp_val (v := u) ?_ (h.value hk hi rfl (fun _ => hu) (Below.refl _ _))
    have e' : execOp a.eval ⟨some d, .load 126 (.tmp s), 126, pos, after, none⟩ = execOp (fun _ => Value.pointer (some ⟨p, 0, none⟩)) ⟨some d, .load 126 (.tmp 0), 126, pos, after, none⟩ := by
      unfold execOp; simp only [e]
    rw [e']
    simp [go_sem, f0]⟩
set_option maxRecDepth 100000 in
theorem st_bet {i d lo hi : Nat} {ty : TypeId} {pos : String} {ats : Array TypeId} {after : Array Edge} (hk : ckinds[i]? = some (some d, .fn (betF lo hi))) (ha : ∀ e ∈ after, e.on < i) (hs : True) :
    StC Q w0 p4 p5 i ⟨some d, .call ⟨.value (.func 168), #[.const (.int .u8 (lo : Nat)), .const (.int .u8 (hi : Nat))], ats⟩, ty, pos, after, none⟩ :=
  ⟨rfl, ha, fun L a w h hi' he => by
    refine wp_call (run_call cf_between a w (some d) #[.const (.int .u8 (lo : Nat)), .const (.int .u8 (hi : Nat))] ats ty pos after) ?_
    have e : Array.map a.eval #[.const (.int .u8 (lo : Nat)), .const (.int .u8 (hi : Nat))] = #[.int .u8 (lo : Nat), .int .u8 (hi : Nat)] := by simp [Act.eval]
    rw [e]
    refine (between_any w lo hi).mono fun en w' hg => ?_
    obtain ⟨v, rfl, hv, hb⟩ := hg
    exact ⟨v, rfl, h.value hk hi' rfl (fun _ => hv) hb⟩⟩
set_option maxRecDepth 100000 in
theorem st_either {i j d s : Nat} {ty : TypeId} {pos : String} {ats : Array TypeId} {after : Array Edge} {fs : List (Nat → Bool)} (hk : ckinds[i]? = some (some d, .fn (anyF fs))) (ha : ∀ e ∈ after, e.on < i) (hs : True)
    (hj : ckinds[j]? = some (some s, .sl fs)) (hl : fs.length ≤ 100) (hL : ∀ (L : Nat → Bool) (a : Act) (w : World), CI w0 p4 p5 L a w → (∀ e ∈ after, Region.binds .any e = true → L e.on = true) → L j = true) :
    StC Q w0 p4 p5 i ⟨some d, .call ⟨.value (.func 169), #[.tmp s], ats⟩, ty, pos, after, none⟩ :=
  ⟨rfl, ha, fun L a w h hi' he => by
    obtain ⟨mv, h1, _⟩ := h.slots
    obtain ⟨b, vs, e, hc, hlen, hf⟩ := h1 j s _ hj (hL L a w h he)
    refine wp_call (run_call cf_either a w (some d) #[.tmp s] ats ty pos after) ?_
    have e' : Array.map a.eval #[.tmp s] = #[.slice (some ⟨b, 0, none⟩) vs.length vs.length] := by simp [e]
    rw [e']
    refine (either_any w b vs fs hc (by omega) hlen hf).mono fun en w' hg => ?_
    obtain ⟨v, rfl, hv, hb⟩ := hg
    exact ⟨v, rfl, h.value hk hi' rfl (fun _ => hv) hb⟩⟩
set_option maxRecDepth 100000 in
theorem run_sl2 (ρ : Operand → Value) (w : World) {d s1 s2 : Nat} {ty : TypeId} {pos : String} {after : Array Edge} {g1 g2 : Fn} {c1 c2 : Array Value} (e1 : ρ (.tmp s1) = .func g1 #[] c1) (e2 : ρ (.tmp s2) = .func g2 #[] c2) :
    (execOp ρ ⟨some d, .buildSlice 179 2 #[(0, .tmp s1), (1, .tmp s2)], ty, pos, after, none⟩).run Tryz.prog w = .ok (.value (.slice (some ⟨w.heap.size, 0, none⟩) 2 2)) (w.alloc (.cells #[.func g1 #[] c1, .func g2 #[] c2] 126)) := by
  simp [execOp, e1, e2, go_sem]
set_option maxRecDepth 100000 in
theorem run_sl3 (ρ : Operand → Value) (w : World) {d s1 s2 s3 : Nat} {ty : TypeId} {pos : String} {after : Array Edge} {g1 g2 g3 : Fn} {c1 c2 c3 : Array Value} (e1 : ρ (.tmp s1) = .func g1 #[] c1) (e2 : ρ (.tmp s2) = .func g2 #[] c2) (e3 : ρ (.tmp s3) = .func g3 #[] c3) :
    (execOp ρ ⟨some d, .buildSlice 179 3 #[(0, .tmp s1), (1, .tmp s2), (2, .tmp s3)], ty, pos, after, none⟩).run Tryz.prog w = .ok (.value (.slice (some ⟨w.heap.size, 0, none⟩) 3 3)) (w.alloc (.cells #[.func g1 #[] c1, .func g2 #[] c2, .func g3 #[] c3] 126)) := by
  simp [execOp, e1, e2, e3, go_sem]
theorem slOk_new (w : World) (vs : List Value) (fs : List (Nat → Bool)) (t : TypeId) (hl : fs.length = vs.length) (hf : ∀ (i : Nat) (v : Value) (f : Nat → Bool), vs[i]? = some v → fs[i]? = some f → FnOf w v f) :
    SlOk (w.alloc (.cells vs.toArray t)) (.slice (some ⟨w.heap.size, 0, none⟩) vs.length vs.length) fs :=
  ⟨_, vs, rfl, CellsAt.new w _ _, hl, fun i v f h1 h2 => (hf i v f h1 h2).later (.of_below ((Below.refl _ _).alloc (Nat.le_refl _) _))⟩
set_option maxRecDepth 100000 in
theorem st_sl2 {i d s1 s2 : Nat} {ty : TypeId} {pos : String} {after : Array Edge} {f1 f2 : Nat → Bool} (hk : ckinds[i]? = some (some d, .sl [f1, f2])) (ha : ∀ e ∈ after, e.on < i) (hs : True)
    (hf1 : ∀ (L : Nat → Bool) (a : Act) (w : World), CI w0 p4 p5 L a w → (∀ e ∈ after, Region.binds .any e = true → L e.on = true) → FnOf w (a.eval (.tmp s1)) f1)
    (hf2 : ∀ (L : Nat → Bool) (a : Act) (w : World), CI w0 p4 p5 L a w → (∀ e ∈ after, Region.binds .any e = true → L e.on = true) → FnOf w (a.eval (.tmp s2)) f2) :
    StC Q w0 p4 p5 i ⟨some d, .buildSlice 179 2 #[(0, .tmp s1), (1, .tmp s2)], ty, pos, after, none⟩ :=
  ⟨rfl, ha, fun L a w h hi' he => by
    have h1 := hf1 L a w h he; have h2 := hf2 L a w h he
    obtain ⟨g1, c1, e1, _⟩ := id h1; obtain ⟨g2, c2, e2, _⟩ := id h2
    refine wp_val (run_sl2 a.eval w e1 e2) (h.value hk hi' rfl (fun _ => ?_) ((Below.refl _ _).alloc (Nat.le_refl _) _))
    rw [e1] at h1; rw [e2] at h2
    refine slOk_new w [.func (.func g1) #[] c1, .func (.func g2) #[] c2] [f1, f2] _ rfl fun i v f a1 a2 => ?_
    rcases i with _ | _ | i
    · simp at a1 a2; subst a1 a2; exact h1
    · simp at a1 a2; subst a1 a2; exact h2
    · simp at a1⟩
set_option maxRecDepth 100000 in
theorem st_sl3 {i d s1 s2 s3 : Nat} {ty : TypeId} {pos : String} {after : Array Edge} {f1 f2 f3 : Nat → Bool} (hk : ckinds[i]? = some (some d, .sl [f1, f2, f3])) (ha : ∀ e ∈ after, e.on < i) (hs : True)
    (hf1 : ∀ (L : Nat → Bool) (a : Act) (w : World), CI w0 p4 p5 L a w → (∀ e ∈ after, Region.binds .any e = true → L e.on = true) → FnOf w (a.eval (.tmp s1)) f1)
    (hf2 : ∀ (L : Nat → Bool) (a : Act) (w : World), CI w0 p4 p5 L a w → (∀ e ∈ after, Region.binds .any e = true → L e.on = true) → FnOf w (a.eval (.tmp s2)) f2)
    (hf3 : ∀ (L : Nat → Bool) (a : Act) (w : World), CI w0 p4 p5 L a w → (∀ e ∈ after, Region.binds .any e = true → L e.on = true) → FnOf w (a.eval (.tmp s3)) f3) :
    StC Q w0 p4 p5 i ⟨some d, .buildSlice 179 3 #[(0, .tmp s1), (1, .tmp s2), (2, .tmp s3)], ty, pos, after, none⟩ :=
  ⟨rfl, ha, fun L a w h hi' he => by
    have h1 := hf1 L a w h he; have h2 := hf2 L a w h he; have h3 := hf3 L a w h he
    obtain ⟨g1, c1, e1, _⟩ := id h1; obtain ⟨g2, c2, e2, _⟩ := id h2; obtain ⟨g3, c3, e3, _⟩ := id h3
    refine wp_val (run_sl3 a.eval w e1 e2 e3) (h.value hk hi' rfl (fun _ => ?_) ((Below.refl _ _).alloc (Nat.le_refl _) _))
    rw [e1] at h1; rw [e2] at h2; rw [e3] at h3
    refine slOk_new w [.func (.func g1) #[] c1, .func (.func g2) #[] c2, .func (.func g3) #[] c3] [f1, f2, f3] _ rfl fun i v f a1 a2 => ?_
    rcases i with _ | _ | _ | i
    · simp at a1 a2; subst a1 a2; exact h1
    · simp at a1 a2; subst a1 a2; exact h2
    · simp at a1 a2; subst a1 a2; exact h3
    · simp at a1⟩
set_option maxRecDepth 100000 in
theorem st_mf {i d : Nat} {ty : TypeId} {pos : String} {after : Array Edge} (hk : ckinds[i]? = some (some d, .fn (butF graphF alnumF))) (ha : ∀ e ∈ after, e.on < i) (hs : True) :
    StC Q w0 p4 p5 i ⟨some d, .makeFunc (.func 170) #[] #[.tmp 5, .tmp 4], ty, pos, after, none⟩ :=
  ⟨rfl, ha, fun L a w h hi' he => by
    obtain ⟨e5, u5, c5, f5⟩ := h.t5
    obtain ⟨e4, u4, c4, f4⟩ := h.t4
    refine wp_val (v := .func (.func 170) #[] #[a.eval (.tmp 5), a.eval (.tmp 4)]) (by simp [execOp, Instr.makeFunc, go_sem]) (h.value hk hi' rfl (fun _ => ?_) (Below.refl _ _))
    rw [e5, e4]
    exact but_fn w p5 p4 u5 u4 graphF alnumF c5 c4 f5 f4⟩
set_option maxRecDepth 100000 in
theorem st_mk {ty mt : TypeId} {pos : String} {after : Array Edge} (ha : ∀ e ∈ after, e.on < 0) : StC Q w0 p4 p5 0 ⟨some 15, .makeMap mt none, ty, pos, after, none⟩ :=
  ⟨rfl, ha, fun L a w h hi' he => by
    have hb : Below w.heap.size w (w.alloc (.map #[] 0)) := (Below.refl _ _).alloc (Nat.le_refl _) _
    have hx := CExt.of_below hb
    refine wp_val (v := .map (some w.heap.size)) (w' := w.alloc (.map #[] 0)) (by simp [execOp, Instr.makeMap, go_sem]) ?_
    have hk : ckinds[0]? = some (some 15, .mk) := rfl
    obtain ⟨mv, h1, h2⟩ := h.slots
    have hupd : ∀ j, j ≠ 0 → upd L 0 j = L j := fun j hj => by simp [upd, show (j == 0) = false by simpa using hj]
    refine ⟨h.bel.step hb, by simp [Act.put, h.sz], h.dfr, ?_, ?_, ?_, ?_, ?_, ⟨.map (some w.heap.size), fun j e k' hj hL => ?_, fun hL => ?_⟩, fun j x hj hx' hL => by simp [upd]⟩
    · rw [eval_put_ne (by decide)]; exact h.t1.later hx
    · rw [eval_put_ne (by decide)]; exact h.t2.later hx
    · rw [eval_put_ne (by decide)]; exact h.t3.later hx
    · rw [eval_put_ne (by decide)]; exact h.t4.later hx
    · rw [eval_put_ne (by decide)]; exact h.t5.later hx
    · by_cases hji : j = 0
      · subst hji
        rw [hk] at hj; cases hj
        rw [eval_put_same (by rw [h.sz]; decide)]
        exact rfl
      · have hde : 15 ≠ e := fun he => hji (by subst he; exact (ck_one hk hj).symm)
        rw [eval_put_ne hde]
        rw [hupd j hji] at hL
        have := (h1 j e k' hj hL).later hx
        cases k' with
        | mk => exact absurd (ck_mk hj) hji
        | cp => exact absurd (h.early j _ hj rfl hL) (by rw [hi']; simp)
        | fn f => exact this
        | sl fs => exact this
        | ins _ _ => trivial
    · refine ⟨w.heap.size, #[], 0, rfl, heap_alloc_new w _, h.bel.size, fun x hx => by simp at hx, fun j n f hj hL' => ?_⟩
      have hji : j ≠ 0 := fun e => by subst e; cases hj
      rw [hupd j hji] at hL'
      exact absurd (h.early j _ hj rfl hL') (by rw [hi']; simp)⟩
theorem bs_inj {a b : Bs} (h : Value.string (bs a) = .string (bs b)) : a = b := by
  injection h with h
  injection h with h
  simpa using h
theorem run_ins (ρ : Operand → Value) (w : World) {r clock s : Nat} {es : Array MapEntry} {name : Bs} {ty : TypeId} {pos : String} {after : Array Edge} (e1 : ρ (.tmp 15) = .map (some r)) (e2 : ρ (.const (.string (bs name))) = .string (bs name))
    (hr : w.heap[r]? = some (.map es clock)) (hks : ∀ x ∈ es.toList, MapKept.IsKey .string x.key) (hno : ∀ x ∈ es.toList, x.key ≠ .string (bs name)) :
    (execOp ρ ⟨none, .insert 170 (.tmp 15) (.const (.string (bs name))) (.tmp s), ty, pos, after, none⟩).run Tryz.prog w = .ok .skip { w with heap := w.heap.setIfInBounds r (.map (es.push { key := .string (bs name), val := ρ (.tmp s), born := clock }) (clock + 1)) } := by
  have hm : Tryz.prog.underlying 170 = some (.map 9 126) := by kernel_rfl
  have hd : Tryz.prog.underlying 9 = some .string := by kernel_rfl
  have hk : MapKept.IsKey .string (.string (bs name)) := trivial
  have hf : Instr.findNow .string (.string (bs name)) es.toList 0 = some none := by
    rcases MapKept.findNow_spec hk es.toList 0 hks with ⟨h1, _⟩ | ⟨j, e, _, h2, h3⟩
    · exact h1
    · exact absurd h3 (hno e (List.mem_of_getElem? h2))
  simp [execOp, e1, e2, Instr.mapUpdate, run_underlying hm, MapKept.run_getObj_map hr, MapKept.run_checkKey hd hk, MapKept.run_findKey hd hf, MapKept.run_setObj_map _ hr, Result.andThen]
set_option maxRecDepth 100000 in
theorem st_ins {i j s : Nat} {name : Bs} {f : Nat → Bool} {ty : TypeId} {pos : String} {after : Array Edge} (hk : ckinds[i]? = some (none, .ins name f)) (hj : ckinds[j]? = some (some s, .fn f)) (ha : ∀ e ∈ after, e.on < i)
    (hL : ∀ (L : Nat → Bool) (a : Act) (w : World), CI w0 p4 p5 L a w → (∀ e ∈ after, Region.binds .any e = true → L e.on = true) → L 0 = true ∧ L j = true) :
    StC Q w0 p4 p5 i ⟨none, .insert 170 (.tmp 15) (.const (.string (bs name))) (.tmp s), ty, pos, after, none⟩ :=
  ⟨rfl, ha, fun L a w h hi' he => by
    obtain ⟨l0, lj⟩ := hL L a w h he
    obtain ⟨mv, h1, h2⟩ := h.slots
    have hv := h.fnAt hj lj
    have e15 : a.eval (.tmp 15) = mv := h1 0 15 .mk rfl l0
    obtain ⟨r, es, clock, rfl, hr, hB, m1, m2⟩ := h2 l0
    have hrl : r < w.heap.size := (Array.getElem?_eq_some_iff.1 hr).1
    refine wp_skip (run_ins (s := s) a.eval w e15 rfl hr (fun x hx => ?_) (fun x hx e => ?_)) ?_
    · obtain ⟨j', n', f', _, _, b, _⟩ := m1 x hx
      rw [b]; trivial
    · obtain ⟨j', n', f', c1, c2, c3, _⟩ := m1 x hx
      rw [c3] at e
      have := bs_inj e
      subst this
      have := ck_name_one hk c1
      subst this
      rw [hi'] at c2; cases c2
    generalize hW : ({ w with heap := w.heap.setIfInBounds r (.map (es.push { key := .string (bs name), val := a.eval (.tmp s), born := clock }) (clock + 1)) } : World) = W
    have hrW : W.heap[r]? = some (.map (es.push { key := .string (bs name), val := a.eval (.tmp s), born := clock }) (clock + 1)) := by subst hW; simp [hrl]
    have hoW : ∀ k, k ≠ r → W.heap[k]? = w.heap[k]? := fun k hk => by subst hW; simp [Ne.symm hk]
    have hsW : W.heap.size = w.heap.size := by subst hW; simp
    have hx : CExt w W := ⟨by omega, fun k cs t z e => by
      rw [hoW k (fun e' => by subst e'; rw [hr] at e; cases e)]; exact e⟩
    have hbW : Below w0.heap.size w0 W := by
      have hb := h.bel
      refine ⟨?_, ?_, ?_, by rw [hsW]; exact hb.size, fun k hk' => (hoW k (by omega)).trans (hb.block k hk')⟩
      · subst hW; exact hb.os
      · subst hW; exact hb.tape
      · subst hW; exact hb.output
    clear hW
    have hupd : ∀ k, k ≠ i → upd L i k = L k := fun k hk => by simp [upd, show (k == i) = false by simpa using hk]
    have hput : a.put none undef = a := rfl
    rw [hput]
    refine ⟨hbW, h.sz, h.dfr, h.t1.later hx, h.t2.later hx, h.t3.later hx, h.t4.later hx, h.t5.later hx, ⟨_, fun k e k' hk' hl => ?_, fun _ => ⟨r, _, _, rfl, hrW, hB, fun x hxm => ?_, fun k n g hk' hl => ?_⟩⟩, fun k x hk' hn hl => ?_⟩
    · have hki : k ≠ i := fun e' => by subst e'; rw [hk] at hk'; cases hk'
      rw [hupd k hki] at hl
      exact (h1 k e k' hk' hl).later hx
    · rw [Array.toList_push, List.mem_append, List.mem_singleton] at hxm
      rcases hxm with hxm | rfl
      · obtain ⟨j', n', f', c1, c2, c3, c4⟩ := m1 x hxm
        exact ⟨j', n', f', c1, by simp [upd, c2], c3, c4.later hx⟩
      · exact ⟨i, name, f, hk, by simp [upd], rfl, hv.later hx⟩
    · by_cases hki : k = i
      · subst hki
        rw [hk] at hk'; cases hk'
        exact ⟨_, by rw [Array.toList_push]; exact List.mem_append_right _ (List.mem_singleton.2 rfl), rfl⟩
      · rw [hupd k hki] at hl
        obtain ⟨x, hx1, hx2⟩ := m2 k n g hk' hl
        exact ⟨x, by rw [Array.toList_push]; exact List.mem_append_left _ hx1, hx2⟩
    · have hi0 : i ≠ 0 := fun e' => by subst e'; cases hk
      rw [hupd 0 (Ne.symm hi0)]; exact l0⟩
set_option maxRecDepth 100000 in
theorem st_cp {i j d s : Nat} {k' : CK} {op : Op} {ty : TypeId} {pos : String} {after : Array Edge} (hk : ckinds[i]? = some (some d, .cp)) (hj : ckinds[j]? = some (some s, k')) (ha : ∀ e ∈ after, e.on < i) (hop : op = .move (.tmp s) ∨ op = .assign (.tmp s)) (hc : k' = .mk ∨ k' = .cp)
    (hL : ∀ (L : Nat → Bool) (a : Act) (w : World), CI w0 p4 p5 L a w → (∀ e ∈ after, Region.binds .any e = true → L e.on = true) → L j = true) : StC Q w0 p4 p5 i ⟨some d, op, ty, pos, after, none⟩ :=
  ⟨rfl, ha, fun L a w h hi' he => by
    have lj := hL L a w h he
    have l0 : L 0 = true := by
      rcases hc with rfl | rfl
      · rw [← ck_mk hj]; exact lj
      · exact h.early j _ hj rfl lj
    obtain ⟨mv, h1, h2⟩ := h.slots
    have es : a.eval (.tmp s) = mv := by
      rcases hc with rfl | rfl
      · exact h1 j s _ hj lj
      · exact h1 j s _ hj lj
    obtain ⟨d1, d2, d3, d4, d5, dl⟩ := ck_far hk
    have hi0 : i ≠ 0 := fun e => by subst e; cases hk
    have hupd : ∀ j, j ≠ i → upd L i j = L j := fun j hj => by simp [upd, show (j == i) = false by simpa using hj]
    refine wp_val (v := a.eval (.tmp s)) (w' := w) (by rcases hop with rfl | rfl <;> rfl) ?_
    show CI w0 p4 p5 (upd L i) (a.put (some d) (a.eval (.tmp s))) w
    rw [es]
    refine ⟨h.bel, by simp [Act.put, h.sz], h.dfr, ?_, ?_, ?_, ?_, ?_, ⟨mv, fun k e k2 hk2 hl => ?_, fun _ => (h2 l0).more hk⟩, fun k x hk2 hn hl => by rw [hupd 0 (Ne.symm hi0)]; exact l0⟩
    · rw [eval_put_ne d1]; exact h.t1
    · rw [eval_put_ne d2]; exact h.t2
    · rw [eval_put_ne d3]; exact h.t3
    · rw [eval_put_ne d4]; exact h.t4
    · rw [eval_put_ne d5]; exact h.t5
    · by_cases hki : k = i
      · subst hki
        rw [hk] at hk2; cases hk2
        rw [eval_put_same (by rw [h.sz]; exact dl)]
        exact rfl
      · have hde : d ≠ e := fun he => hki (by subst he; exact (ck_one hk hk2).symm)
        rw [eval_put_ne hde]
        rw [hupd k hki] at hl
        exact h1 k e k2 hk2 hl⟩
end
/-- The table as it stands. -/
def ClassMap (w : World) (v : Value) : Prop :=
  ∃ (r : Nat) (es : Array MapEntry) (clock : Nat), v = .map (some r) ∧ w.heap[r]? = some (.map es clock) ∧
    (∀ x ∈ es.toList, ∃ (j : Nat) (name : Bs) (f : Nat → Bool), ckinds[j]? = some (none, .ins name f) ∧ x.key = .string (bs name) ∧ FnOf w x.val f) ∧
    ∀ (j : Nat) (name : Bs) (f : Nat → Bool), ckinds[j]? = some (none, .ins name f) → ∃ x ∈ es.toList, x.key = .string (bs name)
theorem classes_res (tmps : Array Value) (v : Value) (W : World) (h : tmps[0]? = some v) : (results Tryz.f165 tmps).run Tryz.prog W = .ok v W := by
  simp [results, Tryz.results165, go_sem, h]
set_option maxRecDepth 100000 in
set_option maxHeartbeats 4000000 in
theorem classes_any (w : World) : Calls Tryz.prog 165 #[] w fun en w' => ∃ v, en = .returned v ∧ ClassMap w' v ∧ Below w.heap.size w w' := by
  go_enter Tryz.func165, Tryz.ntmps165
  go_wp2_with fail
  refine (between_any _ 65 90).mono ?_
  rintro en w1 ⟨v1, rfl, h1, hb1⟩
  go_wp2_with fail
  refine (between_any _ 97 122).mono ?_
  rintro en w2 ⟨v2, rfl, h2, hb2⟩
  go_wp2_with fail
  refine (between_any _ 48 57).mono ?_
  rintro en w3 ⟨v3, rfl, h3, hb3⟩
  have h1 := (h1.later (.of_below hb2)).later (.of_below hb3)
  have h2 := h2.later (.of_below hb3)
  have hb3 := (hb1.step hb2).step hb3
  clear hb1 hb2
  obtain ⟨g1, c1, rfl, -⟩ := id h1
  obtain ⟨g2, c2, rfl, -⟩ := id h2
  obtain ⟨g3, c3, rfl, -⟩ := id h3
  have H1 := Lib.hid h1; have H2 := Lib.hid h2; have H3 := Lib.hid h3; have HB := Lib.hid hb3
  clear h1 h2 h3 hb3
  go_wp2_with fail
  generalize hW4 : w3.alloc _ = W4
  have hb4 : Below w3.heap.size w3 W4 := by subst hW4; exact (Below.refl _ _).alloc (Nat.le_refl _) _
  have hs4 : CellsAt W4 w3.heap.size [Value.func (.func g1) #[] c1, .func (.func g2) #[] c2, .func (.func g3) #[] c3].toArray := by subst hW4; exact CellsAt.new w3 _ _
  clear hW4
  refine (either_any W4 w3.heap.size [Value.func (.func g1) #[] c1, .func (.func g2) #[] c2, .func (.func g3) #[] c3] [betF 65 90, betF 97 122, betF 48 57] hs4 (by simp) rfl ?_).mono ?_
  · intro i v f a1 a2
    rcases i with _ | _ | _ | i
    · simp at a1 a2; subst a1 a2; exact H1.out.later (.of_below hb4)
    · simp at a1 a2; subst a1 a2; exact H2.out.later (.of_below hb4)
    · simp at a1 a2; subst a1 a2; exact H3.out.later (.of_below hb4)
    · simp at a1
  rintro en w5 ⟨v4, rfl, h4, hb5⟩
  obtain ⟨g4, c4, rfl, -⟩ := id h4
  have H4 := Lib.hid h4; clear h4 hs4
  go_wp2_with fail
  refine (between_any _ 33 126).mono ?_
  rintro en w6 ⟨v5, rfl, h5, hb6⟩
  obtain ⟨g5, c5, rfl, -⟩ := id h5
  have H5 := Lib.hid h5; clear h5
  have HB36 := Lib.hid ((hb4.step hb5).step hb6)
  have HB56 := Lib.hid hb6
  clear hb4 hb5 hb6
  go_wp2_with fail
  generalize hW7 : (w6.alloc _).alloc _ = W7
  have hb7 : Below w6.heap.size w6 W7 := by subst hW7; exact ((Below.refl _ _).alloc (Nat.le_refl _) _).alloc (by simp) _
  have hz7 : W7.heap.size = w6.heap.size + 2 := by subst hW7; simp
  have k4 : CellsAt W7 w6.heap.size #[.func (.func g4) #[] c4] := by
    subst hW7
    exact (CellsAt.new w6 _ _).keep ((Below.refl _ _).alloc (Nat.le_refl _) _)
  have k5 : CellsAt W7 (w6.heap.size + 1) #[.func (.func g5) #[] c5] := by
    subst hW7
    have := CellsAt.new (w6.alloc (.cells #[.func (.func g4) #[] c4] 126)) #[.func (.func g5) #[] c5] 126
    rw [show (w6.alloc (.cells #[.func (.func g4) #[] c4] 126)).heap.size = w6.heap.size + 1 by simp] at this
    exact this
  clear hW7
  have hb3 := (HB36.out.step hb7)
  have hbW := HB.out.step hb3
  have hd : Below W7.heap.size W7 W7.drew := ⟨rfl, rfl, rfl, Nat.le_refl _, fun _ _ => rfl⟩
  have hx3 : CExt w3 W7.drew := (CExt.of_below hb3).trans (.of_below hd)
  have hx5 : CExt w5 W7.drew := ((CExt.of_below HB56.out).trans (.of_below hb7)).trans (.of_below hd)
  have hx6 : CExt w6 W7.drew := (CExt.of_below hb7).trans (.of_below hd)
  refine wp_region_any (by kernel_rfl) ?_
  refine wpAny_inv (CI w w6.heap.size (w6.heap.size + 1)) ?_ ?_ _ _ _ _ rfl (by decide +kernel) ?_
  · refine fun i o ho => ?_
    rw [List.getElem?_toArray] at ho
    revert i o
    refine steps_start ?_
    refine steps_cons (st_mk (by decide)) ?_
    refine steps_cons (st_move rfl (by decide) trivial (fun L a w h _ => h.t1)) ?_
    refine steps_cons (st_ins (j := 1) rfl rfl (by decide) (fun L a w h he => ⟨he ⟨0, .data⟩ (by simp) rfl, he ⟨1, .data⟩ (by simp) rfl⟩)) ?_
    refine steps_cons (st_move rfl (by decide) trivial (fun L a w h _ => h.t2)) ?_
    refine steps_cons (st_ins (j := 3) rfl rfl (by decide) (fun L a w h he => ⟨he ⟨0, .data⟩ (by simp) rfl, he ⟨3, .data⟩ (by simp) rfl⟩)) ?_
    refine steps_cons (st_move rfl (by decide) trivial (fun L a w h _ => h.t3)) ?_
    refine steps_cons (st_ins (j := 5) rfl rfl (by decide) (fun L a w h he => ⟨he ⟨0, .data⟩ (by simp) rfl, he ⟨5, .data⟩ (by simp) rfl⟩)) ?_
    refine steps_cons (st_load rfl (by decide) trivial (fun L a w h _ => h.t4)) ?_
    refine steps_cons (st_ins (j := 7) rfl rfl (by decide) (fun L a w h he => ⟨he ⟨0, .data⟩ (by simp) rfl, he ⟨7, .data⟩ (by simp) rfl⟩)) ?_
    refine steps_cons (st_load rfl (by decide) trivial (fun L a w h _ => h.t5)) ?_
    refine steps_cons (st_ins (j := 9) rfl rfl (by decide) (fun L a w h he => ⟨he ⟨0, .data⟩ (by simp) rfl, he ⟨9, .data⟩ (by simp) rfl⟩)) ?_
    refine steps_cons (st_move rfl (by decide) trivial (fun L a w h _ => h.t1)) ?_
    refine steps_cons (st_move rfl (by decide) trivial (fun L a w h _ => h.t2)) ?_
    refine steps_cons (st_sl2 rfl (by decide) trivial (fun L a w h he => h.fnAt (i := 11) rfl (he ⟨11, .data⟩ (by simp) rfl)) (fun L a w h he => h.fnAt (i := 12) rfl (he ⟨12, .data⟩ (by simp) rfl))) ?_
    refine steps_cons (st_either (j := 13) rfl (by decide) trivial rfl (by decide) (fun L a w h he => he ⟨13, .data⟩ (by simp) rfl)) ?_
    refine steps_cons (st_ins (j := 14) rfl rfl (by decide) (fun L a w h he => ⟨he ⟨0, .data⟩ (by simp) rfl, he ⟨14, .data⟩ (by simp) rfl⟩)) ?_
    refine steps_cons (st_move rfl (by decide) trivial (fun L a w h _ => h.t3)) ?_
    refine steps_cons (st_bet rfl (by decide) trivial) ?_
    refine steps_cons (st_bet rfl (by decide) trivial) ?_
    refine steps_cons (st_sl3 rfl (by decide) trivial (fun L a w h he => h.fnAt (i := 16) rfl (he ⟨16, .data⟩ (by simp) rfl)) (fun L a w h he => h.fnAt (i := 17) rfl (he ⟨17, .data⟩ (by simp) rfl)) (fun L a w h he => h.fnAt (i := 18) rfl (he ⟨18, .data⟩ (by simp) rfl))) ?_
    refine steps_cons (st_either (j := 19) rfl (by decide) trivial rfl (by decide) (fun L a w h he => he ⟨19, .data⟩ (by simp) rfl)) ?_
    refine steps_cons (st_ins (j := 20) rfl rfl (by decide) (fun L a w h he => ⟨he ⟨0, .data⟩ (by simp) rfl, he ⟨20, .data⟩ (by simp) rfl⟩)) ?_
    refine steps_cons (st_bet rfl (by decide) trivial) ?_
    refine steps_cons (st_bet rfl (by decide) trivial) ?_
    refine steps_cons (st_sl2 rfl (by decide) trivial (fun L a w h he => h.fnAt (i := 22) rfl (he ⟨22, .data⟩ (by simp) rfl)) (fun L a w h he => h.fnAt (i := 23) rfl (he ⟨23, .data⟩ (by simp) rfl))) ?_
    refine steps_cons (st_either (j := 24) rfl (by decide) trivial rfl (by decide) (fun L a w h he => he ⟨24, .data⟩ (by simp) rfl)) ?_
    refine steps_cons (st_ins (j := 25) rfl rfl (by decide) (fun L a w h he => ⟨he ⟨0, .data⟩ (by simp) rfl, he ⟨25, .data⟩ (by simp) rfl⟩)) ?_
    refine steps_cons (st_bet rfl (by decide) trivial) ?_
    refine steps_cons (st_bet rfl (by decide) trivial) ?_
    refine steps_cons (st_sl2 rfl (by decide) trivial (fun L a w h he => h.fnAt (i := 27) rfl (he ⟨27, .data⟩ (by simp) rfl)) (fun L a w h he => h.fnAt (i := 28) rfl (he ⟨28, .data⟩ (by simp) rfl))) ?_
    refine steps_cons (st_either (j := 29) rfl (by decide) trivial rfl (by decide) (fun L a w h he => he ⟨29, .data⟩ (by simp) rfl)) ?_
    refine steps_cons (st_ins (j := 30) rfl rfl (by decide) (fun L a w h he => ⟨he ⟨0, .data⟩ (by simp) rfl, he ⟨30, .data⟩ (by simp) rfl⟩)) ?_
    refine steps_cons (st_bet rfl (by decide) trivial) ?_
    refine steps_cons (st_bet rfl (by decide) trivial) ?_
    refine steps_cons (st_sl2 rfl (by decide) trivial (fun L a w h he => h.fnAt (i := 32) rfl (he ⟨32, .data⟩ (by simp) rfl)) (fun L a w h he => h.fnAt (i := 33) rfl (he ⟨33, .data⟩ (by simp) rfl))) ?_
    refine steps_cons (st_either (j := 34) rfl (by decide) trivial rfl (by decide) (fun L a w h he => he ⟨34, .data⟩ (by simp) rfl)) ?_
    refine steps_cons (st_ins (j := 35) rfl rfl (by decide) (fun L a w h he => ⟨he ⟨0, .data⟩ (by simp) rfl, he ⟨35, .data⟩ (by simp) rfl⟩)) ?_
    refine steps_cons (st_bet rfl (by decide) trivial) ?_
    refine steps_cons (st_ins (j := 37) rfl rfl (by decide) (fun L a w h he => ⟨he ⟨0, .data⟩ (by simp) rfl, he ⟨37, .data⟩ (by simp) rfl⟩)) ?_
    refine steps_cons (st_mf rfl (by decide) trivial) ?_
    refine steps_cons (st_ins (j := 39) rfl rfl (by decide) (fun L a w h he => ⟨he ⟨0, .data⟩ (by simp) rfl, he ⟨39, .data⟩ (by simp) rfl⟩)) ?_
    refine steps_cons (st_cp (j := 0) (s := 15) rfl rfl (by decide) (.inl rfl) (.inl rfl) (fun L a w h he => he ⟨0, .data⟩ (by simp) rfl)) ?_
    refine steps_cons (st_cp (j := 41) (s := 44) rfl rfl (by decide) (.inr rfl) (.inr rfl) (fun L a w h he => he ⟨41, .data⟩ (by simp) rfl)) ?_
    exact steps_nil
  · intro L a W hI hL
    rename_i hK
    have hL : ∀ i < 43, L i = true := hL
    obtain ⟨mv, m1, m2⟩ := hI.slots
    have e0 : a.eval (.tmp 0) = mv := m1 42 0 .cp rfl (hL 42 (by decide))
    obtain ⟨r, es, clock, rfl, hr, hB, n1, n2⟩ := m2 (hL 0 (by decide))
    have hdf := hI.dfr
    have hbl := hI.bel
    have hsz := hI.sz
    refine hK a W ?_
    apply wp_ret
    show bodyPost _ _ _ .ret a W
    obtain ⟨tmps, defers⟩ := a
    have e0 : tmps[0]? = some (.map (some r)) := by
      have hsz : tmps.size = 45 := hsz
      rw [← e0]; simp [Act.eval, Array.getD, hsz]
    refine bodyPost_ret (v := .map (some r)) (classes_res tmps _ W e0) hdf ⟨_, rfl, ⟨r, es, clock, rfl, hr, fun x hx => ?_, fun j n f hj => n2 j n f hj (hL j (ck_lt hj))⟩, hbl⟩
    obtain ⟨j, n, f, c1, _, c3, c4⟩ := n1 x hx
    exact ⟨j, n, f, c1, c3, c4⟩
  · refine ⟨hbW.step hd, rfl, rfl, H1.out.later hx3, H2.out.later hx3, H3.out.later hx3, ⟨rfl, _, k4.later (.of_below hd), H4.out.later hx5⟩, ⟨rfl, _, k5.later (.of_below hd), H5.out.later hx6⟩, ⟨undef, fun i d k hk hL => ?_, fun hL => ?_⟩, fun i x hk hn hL => ?_⟩
    · have := ck_lt hk
      have hno : ∀ i < 43, (Array.replicate 43 false).getD i false = false := by decide
      exact absurd hL (by have := hno i (ck_lt hk); simpa using this)
    · exact absurd hL (by decide)
    · have hno : ∀ i < 43, (Array.replicate 43 false).getD i false = false := by decide
      exact absurd hL (by have := hno i (ck_lt hk); simpa using this)
end Go.Proofs.YthlakbjnmbddaaaGreatDoor

/- The pattern reader's single, member: walked. -/
set_option linter.unusedVariables false
set_option linter.unusedSimpArgs false
namespace Go.Proofs.YthlakbjnmbddaaaGreatDoor
open Go.RowKit

/-- What a step hands back that reads a byte. -/
def GByte (p : Nat) (op : Int) (f : Bs → Except Int (Nat × Bs)) (r : Bs) (w : World) (en : Ending) (w' : World) : Prop :=
  ∃ (c : Nat) (s' : Rs), c < 256 ∧ en = .returned (.int .u8 (c : Nat)) ∧ RS w' p op s' ∧ Off p w w' ∧ Out f (.ok r) (fun x => c = x) s'
set_option maxRecDepth 100000 in
set_option maxHeartbeats 2000000 in
theorem single_any (w : World) (p : Nat) (op : Int) (r : Bs) (g : UInt8) (h : RS w p op (.ok r)) :
    Calls Tryz.prog 156 #[.pointer (some ⟨p, 0, none⟩), .string (bs [g, 93])] w fun en w' => GByte p op (singleP g) r w en w' := by
  have H := Lib.hid h; clear h
  cases r with
  | nil =>
    have hs : singleP g [] = .error 101 := rfl
    go_enter Tryz.func156, Tryz.ntmps156
    go_wp2_with fail
    refine (next_end 101 (by omega) H.out).mono ?_
    rintro en w1 ⟨rfl, h1, hO1⟩
    go_wp2_with fail
    refine (take_err [g, 93] (by simp) h1).mono ?_
    rintro en w2 ⟨rfl, h2, hO2⟩
    go_wp2_with fail
    refine (fail_err 101 (by omega) h2).mono ?_
    rintro en w3 ⟨rfl, h3, hO3⟩
    go_wp2_with fail
    go_ret
    exact ⟨0, _, by omega, rfl, h3, (hO1.trans hO2).trans hO3, Out.bad hs⟩
  | cons c t =>
    have hc := c.toNat_lt
    cases ht : takeP [g, 93] t with
    | none =>
      have hs := Lib.hid (show singleP g (c :: t) = .error 101 by simp only [singleP, ht])
      have Ht := Lib.hid ht; clear ht
      go_enter Tryz.func156, Tryz.ntmps156
      go_wp2_with fail
      refine (next_ok 101 (by omega) H.out).mono ?_
      rintro en w1 ⟨rfl, h1, hO1⟩
      go_wp2_with fail
      refine (take_miss [g, 93] (by simp) Ht.out h1).mono ?_
      rintro en w2 ⟨rfl, h2, hO2⟩
      go_wp2_with fail
      refine (fail_ok 101 (by omega) h2).mono ?_
      rintro en w3 ⟨rfl, h3, hO3⟩
      go_wp2_with fail
      go_ret
      exact ⟨_, _, hc, rfl, h3, (hO1.trans hO2).trans hO3, Out.bad hs.out⟩
    | some r1 =>
      have hs := Lib.hid (show singleP g (c :: t) = .ok (c.toNat, r1) by simp only [singleP, ht])
      have Ht := Lib.hid ht; clear ht
      go_enter Tryz.func156, Tryz.ntmps156
      go_wp2_with fail
      refine (next_ok 101 (by omega) H.out).mono ?_
      rintro en w1 ⟨rfl, h1, hO1⟩
      go_wp2_with fail
      refine (take_hit [g, 93] (by simp) Ht.out h1).mono ?_
      rintro en w2 ⟨rfl, h2, hO2⟩
      go_wp2_with fail
      go_ret
      exact ⟨_, _, hc, rfl, h2, hO1.trans hO2, Out.good hs.out rfl⟩
theorem singleP_lt {g : UInt8} {r r' : Bs} {c : Nat} (h : singleP g r = .ok (c, r')) : c < 256 := by
  unfold singleP at h
  split at h
  · cases h
  · split at h
    · cases h; exact UInt8.toNat_lt _
    · cases h
theorem memberP_lt {r r' : Bs} {c : Nat} (h : memberP r = .ok (c, r')) : c < 256 := by
  unfold memberP at h
  split at h
  · exact singleP_lt h
  · split at h
    · cases h
    · cases h; exact UInt8.toNat_lt _
set_option maxRecDepth 100000 in
set_option maxHeartbeats 2000000 in
theorem member_any (w : World) (p : Nat) (op : Int) (r : Bs) (h : RS w p op (.ok r)) :
    Calls Tryz.prog 157 #[.pointer (some ⟨p, 0, none⟩)] w fun en w' => GByte p op memberP r w en w' := by
  have H := Lib.hid h; clear h
  cases ht : takeP [91, 46] r with
  | some r1 =>
    have hs := Lib.hid (show memberP r = singleP 46 r1 by simp only [memberP, ht])
    have Ht := Lib.hid ht; clear ht
    go_enter Tryz.func157, Tryz.ntmps157
    go_wp2_with fail
    refine (take_hit [91, 46] (by simp) Ht.out H.out).mono ?_
    rintro en w1 ⟨rfl, h1, hO1⟩
    go_wp2_with fail
    refine (single_any w1 p op r1 46 h1).mono ?_
    rintro en w2 ⟨c, s', hc, rfl, h2, hO2, ho⟩
    have Ho := Lib.hid ho; clear ho
    go_wp2_with fail
    go_ret
    exact ⟨c, s', hc, rfl, h2, hO1.trans hO2, by have := Ho.out; simp only [Out] at this ⊢; rw [hs.out]; exact this⟩
  | none =>
    cases r with
    | nil =>
      have hs : memberP [] = .error 101 := rfl
      have Ht := Lib.hid ht; clear ht
      go_enter Tryz.func157, Tryz.ntmps157
      go_wp2_with fail
      refine (take_miss [91, 46] (by simp) Ht.out H.out).mono ?_
      rintro en w1 ⟨rfl, h1, hO1⟩
      go_wp2_with fail
      refine (next_end 101 (by omega) h1).mono ?_
      rintro en w2 ⟨rfl, h2, hO2⟩
      go_wp2_with fail
      go_ret
      exact ⟨0, _, by omega, rfl, h2, hO1.trans hO2, Out.bad hs⟩
    | cons c t =>
      have hc := c.toNat_lt
      have hs := Lib.hid (show memberP (c :: t) = .ok (c.toNat, t) by simp only [memberP, ht])
      have Ht := Lib.hid ht; clear ht
      go_enter Tryz.func157, Tryz.ntmps157
      go_wp2_with fail
      refine (take_miss [91, 46] (by simp) Ht.out H.out).mono ?_
      rintro en w1 ⟨rfl, h1, hO1⟩
      go_wp2_with fail
      refine (next_ok 101 (by omega) h1).mono ?_
      rintro en w2 ⟨rfl, h2, hO2⟩
      go_wp2_with fail
      go_ret
      exact ⟨_, _, hc, rfl, h2, hO1.trans hO2, Out.good hs.out rfl⟩
end Go.Proofs.YthlakbjnmbddaaaGreatDoor

/- The pattern reader's class: walked. -/
set_option linter.unusedVariables false
set_option linter.unusedSimpArgs false
namespace Go.Proofs.YthlakbjnmbddaaaGreatDoor
open Go.RowKit

/-! The table, plain. -/
def ckOk (x : Option Nat × CK) : Prop := match x with
  | (none, .ins n f) => classW n = some (whereW f)
  | _ => True
theorem fa_cons {α : Type} {P : α → Prop} {x : α} {l : List α} (h : P x) (k : ∀ y ∈ l, P y) : ∀ y ∈ x :: l, P y := fun y hy => by
  rcases List.mem_cons.1 hy with rfl | hy
  · exact h
  · exact k y hy
theorem fa_nil {α : Type} {P : α → Prop} : ∀ y ∈ ([] : List α), P y := fun y hy => by cases hy
theorem ckOk_ins {n : Bs} {f : Nat → Bool} (h : classW n = some (whereW f)) : ckOk (none, .ins n f) := h
theorem ckOk_some {d : Nat} {k : CK} : ckOk (some d, k) := trivial
theorem ck_all : ∀ x ∈ ckinds, ckOk x := by
  unfold ckinds
  refine fa_cons ckOk_some ?_
  refine fa_cons ckOk_some ?_
  refine fa_cons (ckOk_ins (by kernel_rfl)) ?_
  refine fa_cons ckOk_some ?_
  refine fa_cons (ckOk_ins (by kernel_rfl)) ?_
  refine fa_cons ckOk_some ?_
  refine fa_cons (ckOk_ins (by kernel_rfl)) ?_
  refine fa_cons ckOk_some ?_
  refine fa_cons (ckOk_ins (by kernel_rfl)) ?_
  refine fa_cons ckOk_some ?_
  refine fa_cons (ckOk_ins (by kernel_rfl)) ?_
  refine fa_cons ckOk_some ?_
  refine fa_cons ckOk_some ?_
  refine fa_cons ckOk_some ?_
  refine fa_cons ckOk_some ?_
  refine fa_cons (ckOk_ins (by kernel_rfl)) ?_
  refine fa_cons ckOk_some ?_
  refine fa_cons ckOk_some ?_
  refine fa_cons ckOk_some ?_
  refine fa_cons ckOk_some ?_
  refine fa_cons ckOk_some ?_
  refine fa_cons (ckOk_ins (by kernel_rfl)) ?_
  refine fa_cons ckOk_some ?_
  refine fa_cons ckOk_some ?_
  refine fa_cons ckOk_some ?_
  refine fa_cons ckOk_some ?_
  refine fa_cons (ckOk_ins (by kernel_rfl)) ?_
  refine fa_cons ckOk_some ?_
  refine fa_cons ckOk_some ?_
  refine fa_cons ckOk_some ?_
  refine fa_cons ckOk_some ?_
  refine fa_cons (ckOk_ins (by kernel_rfl)) ?_
  refine fa_cons ckOk_some ?_
  refine fa_cons ckOk_some ?_
  refine fa_cons ckOk_some ?_
  refine fa_cons ckOk_some ?_
  refine fa_cons (ckOk_ins (by kernel_rfl)) ?_
  refine fa_cons ckOk_some ?_
  refine fa_cons (ckOk_ins (by kernel_rfl)) ?_
  refine fa_cons ckOk_some ?_
  refine fa_cons (ckOk_ins (by kernel_rfl)) ?_
  refine fa_cons ckOk_some ?_
  refine fa_cons ckOk_some ?_
  exact fa_nil
theorem class_hit {j : Nat} {n : Bs} {f : Nat → Bool} (h : ckinds[j]? = some (none, .ins n f)) : classW n = some (whereW f) := ck_all _ (List.mem_of_getElem? h)
theorem class_miss {n : Bs} (h : ∀ (j : Nat) (f : Nat → Bool), ckinds[j]? ≠ some (none, .ins n f)) : classW n = none := by
  unfold classW
  rw [if_neg (fun e => h 15 _ (by rw [e]; rfl))]
  rw [if_neg (fun e => h 2 _ (by rw [e]; rfl))]
  rw [if_neg (fun e => h 4 _ (by rw [e]; rfl))]
  rw [if_neg (fun e => h 6 _ (by rw [e]; rfl))]
  rw [if_neg (fun e => h 8 _ (by rw [e]; rfl))]
  rw [if_neg (fun e => h 21 _ (by rw [e]; rfl))]
  rw [if_neg (fun e => h 26 _ (by rw [e]; rfl))]
  rw [if_neg (fun e => h 31 _ (by rw [e]; rfl))]
  rw [if_neg (fun e => h 36 _ (by rw [e]; rfl))]
  rw [if_neg (fun e => h 10 _ (by rw [e]; rfl))]
  rw [if_neg (fun e => h 38 _ (by rw [e]; rfl))]
  rw [if_neg (fun e => h 40 _ (by rw [e]; rfl))]
theorem cut_lib : ∀ (r : Bs), Lib.cut r [58, 93] = match cutP r with | some (a, b) => (a, b, true) | none => (r, [], false)
  | [] => by rfl
  | c :: t => by
    have ih := cut_lib t
    have hge := Lib.index_ge t [58, 93]
    rw [cutP]
    unfold Lib.cut at ih ⊢
    rw [Lib.index]
    cases hp : List.isPrefixOf [58, 93] (c :: t) with
    | true => simp [takeP, hp]
    | false =>
      simp only [takeP, hp, Bool.false_eq_true, if_false]
      cases hc : cutP t with
      | none =>
        simp only [hc] at ih ⊢
        by_cases hi : Lib.index t [58, 93] = -1
        · simp [hi]
        · rw [if_pos (by omega)] at ih
          simp at ih
      | some y =>
        obtain ⟨a, b⟩ := y
        simp only [hc] at ih ⊢
        by_cases hi : Lib.index t [58, 93] = -1
        · rw [if_neg (by omega)] at ih
          simp at ih
        · rw [if_pos (by omega)] at ih
          simp only [Prod.mk.injEq, and_true] at ih
          have hb : (Lib.index t [58, 93] == -1) = false := by simpa using hi
          rw [hb]
          simp only [Bool.false_eq_true, if_false]
          rw [if_pos (by omega)]
          have e1 : (Lib.index t [58, 93] + 1).toNat = (Lib.index t [58, 93]).toNat + 1 := by omega
          rw [e1, List.take_succ_cons, ih.1]
          rw [← ih.2]
          refine congrArg (fun x => (c :: a, x, true)) ?_
          show List.drop ((Lib.index t [58, 93]).toNat + 1 + 2) (c :: t) = _
          rw [show (Lib.index t [58, 93]).toNat + 1 + 2 = ((Lib.index t [58, 93]).toNat + 2) + 1 by omega, List.drop_succ_cons]
          try rfl
theorem drewN_below (w : World) (n : Nat) : Below w.heap.size w (w.drewN n) := by
  refine ⟨rfl, rfl, rfl, Nat.le_refl _, fun _ _ => rfl⟩
/-- What Cut hands back, at :]. -/
def cutV (r : Bs) : Value := match cutP r with
  | some (a, b) => .tuple #[.string (bs a), .string (bs b), .bool true]
  | none => .tuple #[.string (bs r), .string (bs []), .bool false]
theorem cut_any (w : World) (r : Bs) (hl : r.length ≤ 1024) (hM : MaxOk w) : Calls Tryz.prog 164 #[.string (bs r), .string (bs [58, 93])] w fun en w' => en = .returned (cutV r) ∧ Below w.heap.size w w' := by
  obtain ⟨m, hm⟩ := hM
  refine (Tryz.strings_Cut (bs r) (bs [58, 93]) m w (by rw [Lib.size_eq]; show r.length < _; omega) hm).mono ?_
  rintro en w' ⟨rfl, n, rfl⟩
  refine ⟨?_, drewN_below w n⟩
  have h := cut_lib r
  have e1 : (bs r).data.toList = r := by simp [bs]
  have e2 : (bs [58, 93]).data.toList = [58, 93] := by simp [bs]
  rw [e1, e2, h]
  unfold cutV
  cases cutP r <;> rfl

/-- A set's block. -/
def SetAt (w : World) (b : Nat) (s : W4) : Prop := w.heap[b]? = some (.cells #[.int .u64 s.a, .int .u64 s.b, .int .u64 s.c, .int .u64 s.d] 28 (0, 0))
theorem SetAt.lt {w : World} {b : Nat} {s : W4} (h : SetAt w b s) : b < w.heap.size := (Array.getElem?_eq_some_iff.1 h).1
theorem SetAt.at4 {w : World} {b : Nat} {s : W4} (h : SetAt w b s) : At4 w b 0 s :=
  ⟨cell_of_row w b 0 _ _ (0, 0) h, cell_of_row w b 1 _ _ (0, 0) h, cell_of_row w b 2 _ _ (0, 0) h, cell_of_row w b 3 _ _ (0, 0) h⟩
theorem SetAt.froz {w : World} {b : Nat} {s : W4} (h : SetAt w b s) (o : Nat) : w.frozen? ⟨b, o, none⟩ = false := by
  unfold World.frozen?
  rw [show w.heap[(⟨b, o, none⟩ : Addr).block]? = _ from h]
  simp
theorem SetAt.keep {w w' : World} {b : Nat} {s : W4} (h : SetAt w b s) (e : w'.heap[b]? = w.heap[b]?) : SetAt w' b s := e.trans h
theorem SetAt.off {w w' : World} {p b : Nat} {s : W4} (h : SetAt w b s) (k : Off p w w') (hn : b ≠ p) : SetAt w' b s := h.keep (k.block b h.lt (by simpa using hn))
def W4.put (s : W4) (i : Nat) (x : Int) : W4 := if i = 0 then { s with a := x } else if i = 1 then { s with b := x } else if i = 2 then { s with c := x } else { s with d := x }
theorem SetAt.put {w : World} {b : Nat} {s : W4} (h : SetAt w b s) (i : Nat) (hi : i < 4) (x : Int) : SetAt (w.setCell ⟨b, i, none⟩ (.int .u64 x)) b (s.put i x) := by
  unfold SetAt at h ⊢
  simp only [World.setCell, Array.getElem?_modify, ↓reduceIte, h, Option.map_some]
  rcases (show i = 0 ∨ i = 1 ∨ i = 2 ∨ i = 3 by omega) with rfl | rfl | rfl | rfl <;> rfl
theorem SetAt.addW {w : World} {b : Nat} {s : W4} (h : SetAt w b s) (c : Nat) (hc : c < 256) : SetAt (addW w b 0 s c) b (s.add c) := by
  unfold Go.Proofs.YthlakbjnmbddaaaGreatDoor.addW
  have h1 := h.put (c / 64) (by omega) (orI (s.word (c / 64)) (2 ^ (c % 64)))
  rw [Nat.zero_add]
  have e : s.put (c / 64) (orI (s.word (c / 64)) (2 ^ (c % 64))) = s.add c := by
    rcases (show c < 64 ∨ (64 ≤ c ∧ c < 128) ∨ (128 ≤ c ∧ c < 192) ∨ (192 ≤ c ∧ c < 256) by omega) with h | h | h | h
    · rw [show c / 64 = 0 by omega, show c % 64 = c by omega]; simp [W4.put, W4.word, W4.add, h]
    · rw [show c / 64 = 1 by omega, show c % 64 = c - 64 by omega]; simp [W4.put, W4.word, W4.add, show ¬ c < 64 by omega, h.2]
    · rw [show c / 64 = 2 by omega, show c % 64 = c - 128 by omega]; simp [W4.put, W4.word, W4.add, show ¬ c < 64 by omega, show ¬ c < 128 by omega, h.2]
    · rw [show c / 64 = 3 by omega, show c % 64 = c - 192 by omega]; simp [W4.put, W4.word, W4.add, show ¬ c < 64 by omega, show ¬ c < 128 by omega, show ¬ c < 192 by omega]
  rw [e] at h1
  exact h1
/-- What a step may do that writes a set: write in the reader's block and the set's, make memory. -/
structure Offs (p b : Nat) (w w' : World) : Prop where
  os : w'.os = w.os
  tape : w'.tape = w.tape
  output : w'.output = w.output
  size : w.heap.size ≤ w'.heap.size
  block : ∀ k, k < w.heap.size → k ≠ p → k ≠ b → w'.heap[k]? = w.heap[k]?
theorem Offs.of {p b : Nat} {w w' : World} (h : Off p w w') : Offs p b w w' := ⟨h.os, h.tape, h.output, h.size, fun k hk h1 _ => h.block k hk (by simpa using h1)⟩
theorem Offs.trans {p b : Nat} {w w1 w2 : World} (h : Offs p b w w1) (k : Offs p b w1 w2) : Offs p b w w2 :=
  ⟨k.os.trans h.os, k.tape.trans h.tape, k.output.trans h.output, Nat.le_trans h.size k.size, fun i hi h1 h2 => (k.block i (Nat.lt_of_lt_of_le hi h.size) h1 h2).trans (h.block i hi h1 h2)⟩
theorem Offs.put {p b : Nat} {w w' : World} (h : Offs p b w w') (o : Nat) (v : Value) : Offs p b w (w'.setCell ⟨b, o, none⟩ v) :=
  ⟨h.os, h.tape, h.output, by simpa using h.size, fun k hk h1 h2 => (Below.heap_setCell _ _ _ _ h2).trans (h.block k hk h1 h2)⟩
theorem Offs.off {p b : Nat} {w w1 w' : World} (h : Off p w w1) (k : Offs p b w1 w') (hb : w.heap.size ≤ b) : Off p w w' :=
  ⟨k.os.trans h.os, k.tape.trans h.tape, k.output.trans h.output, Nat.le_trans h.size k.size, fun i hi h1 => (k.block i (Nat.lt_of_lt_of_le hi h.size) (by simpa using h1) (by omega)).trans (h.block i hi h1)⟩
theorem RS.put {w : World} {p b : Nat} {op : Int} {s : Rs} (h : RS w p op s) (hb : p < b) (o : Nat) (v : Value) : RS (w.setCell ⟨b, o, none⟩ v) p op s :=
  h.kept (by simp) (Below.heap_setCell _ _ _ _ (by show p ≠ b; omega)) (Below.heap_setCell _ _ _ _ (by show 0 ≠ b; omega))
/-- What a step hands back that puts members into a set. -/
def GSet (p b : Nat) (op : Int) (f : W4 → Bs → Except Int (W4 × Bs)) (s : W4) (r : Bs) (w : World) (en : Ending) (w' : World) : Prop :=
  ∃ (S : W4) (s' : Rs), en = .returned (.tuple #[]) ∧ RS w' p op s' ∧ SetAt w' b S ∧ Offs p b w w' ∧ Out (f s) (.ok r) (fun x => S = x) s'

/-- A name looked up. -/
theorem run_look {w : World} {v : Value} (h : ClassMap w v) (n : Bs) : ∃ (is : Value) (ok : Bool), (Instr.lookup 170 v (.string (bs n)) true).run Tryz.prog w = .ok (.tuple #[is, .bool ok]) w ∧
    ((ok = false ∧ classW n = none) ∨ (ok = true ∧ ∃ f, classW n = some (whereW f) ∧ FnOf w is f)) := by
  obtain ⟨r, es, clock, rfl, hr, n1, n2⟩ := h
  have hm : Tryz.prog.underlying 170 = some (.map 9 126) := by kernel_rfl
  have hd : Tryz.prog.underlying 9 = some .string := by kernel_rfl
  have hk : MapKept.IsKey .string (.string (bs n)) := trivial
  have hz : (zeroValue 126).run Tryz.prog w = .ok .nilFunc w := by simp [go_sem]
  have hks : ∀ x ∈ es.toList, MapKept.IsKey .string x.key := fun x hx => by
    obtain ⟨j, n', f', _, b, _⟩ := n1 x hx
    rw [b]; trivial
  rcases MapKept.findNow_spec hk es.toList 0 hks with ⟨h1, h2⟩ | ⟨j, e, h1, h2, h3⟩
  · refine ⟨.nilFunc, false, ?_, .inl ⟨rfl, class_miss fun j f hj => ?_⟩⟩
    · simp [Instr.lookup, run_underlying hm, MapKept.run_getObj_map hr, MapKept.run_checkKey hd hk, MapKept.run_findKey hd h1, hz, Result.andThen]
    · obtain ⟨x, hx, hxk⟩ := n2 j n f hj
      exact h2 x hx hxk
  · obtain ⟨j', n', f', c1, c2, c3⟩ := n1 e (List.mem_of_getElem? h2)
    rw [c2] at h3
    have := bs_inj h3
    subst this
    refine ⟨e.val, true, ?_, .inr ⟨rfl, f', class_hit c1, c3⟩⟩
    simp [Instr.lookup, run_underlying hm, MapKept.run_getObj_map hr, MapKept.run_checkKey hd hk, MapKept.run_findKey hd h1, Result.andThen]
end Go.Proofs.YthlakbjnmbddaaaGreatDoor

/- The pattern reader's class: walked. -/
set_option linter.unusedVariables false
set_option linter.unusedSimpArgs false
namespace Go.Proofs.YthlakbjnmbddaaaGreatDoor
open Go.RowKit

/-- The first i words of s are joined with x's. -/
def W4.orTo (s x : W4) (i : Nat) : W4 := ⟨if 0 < i then orI s.a x.a else s.a, if 1 < i then orI s.b x.b else s.b, if 2 < i then orI s.c x.c else s.c, if 3 < i then orI s.d x.d else s.d⟩
theorem run_set_word (a b c d : Int) (w : World) :
    (Instr.index 28 (.agg #[.int .u64 a, .int .u64 b, .int .u64 c, .int .u64 d]) (.int .i64 0)).run Tryz.prog w = .ok (.int .u64 a) w ∧ (Instr.index 28 (.agg #[.int .u64 a, .int .u64 b, .int .u64 c, .int .u64 d]) (.int .i64 1)).run Tryz.prog w = .ok (.int .u64 b) w ∧
    (Instr.index 28 (.agg #[.int .u64 a, .int .u64 b, .int .u64 c, .int .u64 d]) (.int .i64 2)).run Tryz.prog w = .ok (.int .u64 c) w ∧ (Instr.index 28 (.agg #[.int .u64 a, .int .u64 b, .int .u64 c, .int .u64 d]) (.int .i64 3)).run Tryz.prog w = .ok (.int .u64 d) w := by
  refine ⟨?_, ?_, ?_, ?_⟩ <;> simp [Instr.index, part, go_sem]
theorem orTo_put (s x : W4) (i : Nat) (hi : i < 4) (u : Int) (hu : u = orI (s.word i) (x.word i)) : (s.orTo x i).put i u = s.orTo x (i + 1) := by
  subst hu
  rcases (show i = 0 ∨ i = 1 ∨ i = 2 ∨ i = 3 by omega) with rfl | rfl | rfl | rfl <;> simp [W4.orTo, W4.put, W4.word]
theorem SetAt.drew {w : World} {b : Nat} {s : W4} (h : SetAt w b s) : SetAt w.drew b s := h
theorem RS.drew {w : World} {p : Nat} {op : Int} {s : Rs} (h : RS w p op s) : RS w.drew p op s := h.kept (Nat.le_refl _) rfl rfl
theorem Offs.drew {p b : Nat} {w w' : World} (h : Offs p b w w') : Offs p b w w'.drew := ⟨h.os, h.tape, h.output, h.size, h.block⟩
theorem orTo_all (s x : W4) : s.orTo x 4 = s.or x := by simp [W4.orTo, W4.or]
theorem orTo_0 (s x : W4) : s.orTo x 0 = s := by simp [W4.orTo]
set_option maxRecDepth 100000 in
set_option maxHeartbeats 4000000 in
theorem class_any (w : World) (p b : Nat) (op : Int) (r : Bs) (s : W4) (h : RS w p op (.ok r)) (hl : r.length ≤ 1024) (hb : p < b) (hS : SetAt w b s) :
    Calls Tryz.prog 155 #[.pointer (some ⟨p, 0, none⟩), .pointer (some ⟨b, 0, none⟩)] w fun en w' => GSet p b op classP s r w en w' := by
  have H := Lib.hid h
  have c0 := h.rdr.c0
  simp only [Rs.rest] at c0
  have hM := h.rdr.mx
  have HS := Lib.hid hS
  have HM := Lib.hid hM
  clear h hS hM
  go_enter Tryz.func155, Tryz.ntmps155
  go_wp2_with fail
  refine (cut_any w r hl HM.out).mono ?_
  rintro en w1 ⟨rfl, hb1⟩
  have h1 := H.out.later hb1
  have hO1 : Off p w w1 := Off.of_below hb1
  have hS1 := HS.out.off hO1 (by omega)
  clear c0
  unfold cutV
  cases hc : cutP r with
  | none =>
    have Hc := Lib.hid (show classP s r = .error 101 by simp only [classP, hc])
    clear hc
    have H1 := Lib.hid h1; have HO1 := Lib.hid hO1; have HS1 := Lib.hid hS1
    clear h1 hO1 hS1 hb1
    simp only
    go_wp2_with fail
    refine (fail_ok 101 (by omega) H1.out).mono ?_
    rintro en w2 ⟨rfl, h2, hO2⟩
    go_wp2_with fail
    go_end0
    exact ⟨s, _, rfl, h2, HS1.out.off hO2 (by omega), .of (HO1.out.trans hO2), Out.bad Hc.out⟩
  | some y =>
    obtain ⟨nm, r1⟩ := y
    have Hc := Lib.hid (show classP s r = match classW nm with | none => .error 103 | some x => .ok (s.or x, r1) by simp only [classP, hc]; rfl)
    clear hc
    have H1 := Lib.hid h1; have HO1 := Lib.hid hO1; have HS1 := Lib.hid hS1
    clear h1 hO1 hS1 hb1
    simp only
    go_wp2_with fail
    refine (classes_any w1).mono ?_
    rintro en w2 ⟨v, rfl, hv, hb2⟩
    obtain ⟨is, ok, hlook, hcase⟩ := run_look hv nm
    have h2 := H1.out.later hb2
    have hO2 : Off p w w2 := HO1.out.trans (Off.of_below hb2)
    have hS2 := HS1.out.off (Off.of_below (p := p) hb2) (by omega)
    have H2 := Lib.hid h2; have HO2 := Lib.hid hO2; have HS2 := Lib.hid hS2
    clear h2 hO2 hS2 hb2 hv H1 HO1 HS1
    rcases hcase with ⟨rfl, hw⟩ | ⟨rfl, f, hw, hf⟩
    · have Hc := Lib.hid (show classP s r = .error 103 by rw [Hc.out, hw])
      clear hw
      go_wp2_with fail
      refine (fail_ok 103 (by omega) H2.out).mono ?_
      rintro en w3 ⟨rfl, h3, hO3⟩
      go_wp2_with fail
      go_end0
      exact ⟨s, _, rfl, h3, HS2.out.off hO3 (by omega), .of (HO2.out.trans hO3), Out.bad Hc.out⟩
    · have Hc := Lib.hid (show classP s r = .ok (s.or (whereW f), r1) by rw [Hc.out, hw])
      have HF := Lib.hid hf
      clear hw hf
      go_wp2_with fail
      refine (where_any w2 is f HF.out).mono ?_
      rintro en w3 ⟨rfl, hb3⟩
      have h3 := H2.out.later hb3
      have hO3 : Off p w w3 := HO2.out.trans (Off.of_below hb3)
      have hS3 := HS2.out.off (Off.of_below (p := p) hb3) (by omega)
      have H3 := Lib.hid h3; have HO3 := Lib.hid hO3; have HS3 := Lib.hid hS3
      clear h3 hO3 hS3 hb3 H2 HO2 HS2 HF hlook
      generalize whereW f = x at *
      obtain ⟨xa, xb, xc, xd⟩ := x
      simp only [W4.V]
      go_wp2_with fail
      go_loopg [35] 4 (fun k i wr => ∃ j : Nat, i = .int .i64 j ∧ j + k = 4 ∧ RS wr p op (.ok r) ∧ SetAt wr b (s.orTo ⟨xa, xb, xc, xd⟩ j) ∧ Offs p b w wr)
      case atStart => exact ⟨0, rfl, rfl, H3.out, by rw [orTo_0]; exact HS3.out, .of HO3.out⟩
      case round =>
        obtain ⟨j, rfl, hj, hR, hS, hO⟩ := hrel
        have HR := Lib.hid hR; have HSr := Lib.hid hS; have HOr := Lib.hid hO
        have z := fun o => hS.froz o
        have z0 := z 0; have z1 := z 1; have z2 := z 2; have z3 := z 3
        obtain ⟨f0, f1, f2, f3⟩ := hS.at4
        simp only [Nat.zero_add] at f1 f2 f3
        clear hR hS hO z H3 HO3 HS3
        have g0 := fun w => (run_set_word xa xb xc xd w).1
        have g1 := fun w => (run_set_word xa xb xc xd w).2.1
        have g2 := fun w => (run_set_word xa xb xc xd w).2.2.1
        have g3 := fun w => (run_set_word xa xb xc xd w).2.2.2
        rcases (show j = 0 ∨ j = 1 ∨ j = 2 ∨ j = 3 ∨ j = 4 by omega) with rfl | rfl | rfl | rfl | rfl
        · simp [W4.orTo] at f0
          go_wp2_with fail
          go_region
          all_goals
            go_wp2_with fail
            go_roundg (gk - 1)
            case measure => omega
            case rel => exact ⟨1, by go_num, by omega, (HR.out.put hb 0 _).drew, SetAt.drew (by have h1 := HSr.out.put 0 (by omega) (bits .or .u64 s.a xa); rw [orTo_put s ⟨xa, xb, xc, xd⟩ 0 (by omega) (bits .or .u64 s.a xa) rfl] at h1; exact h1), (HOr.out.put 0 _).drew⟩
        · simp [W4.orTo] at f1
          go_wp2_with fail
          go_region
          all_goals
            go_wp2_with fail
            go_roundg (gk - 1)
            case measure => omega
            case rel => exact ⟨2, by go_num, by omega, (HR.out.put hb 1 _).drew, SetAt.drew (by have h1 := HSr.out.put 1 (by omega) (bits .or .u64 s.b xb); rw [orTo_put s ⟨xa, xb, xc, xd⟩ 1 (by omega) (bits .or .u64 s.b xb) rfl] at h1; exact h1), (HOr.out.put 1 _).drew⟩
        · simp [W4.orTo] at f2
          go_wp2_with fail
          go_region
          all_goals
            go_wp2_with fail
            go_roundg (gk - 1)
            case measure => omega
            case rel => exact ⟨3, by go_num, by omega, (HR.out.put hb 2 _).drew, SetAt.drew (by have h1 := HSr.out.put 2 (by omega) (bits .or .u64 s.c xc); rw [orTo_put s ⟨xa, xb, xc, xd⟩ 2 (by omega) (bits .or .u64 s.c xc) rfl] at h1; exact h1), (HOr.out.put 2 _).drew⟩
        · simp [W4.orTo] at f3
          go_wp2_with fail
          go_region
          all_goals
            go_wp2_with fail
            go_roundg (gk - 1)
            case measure => omega
            case rel => exact ⟨4, by go_num, by omega, (HR.out.put hb 3 _).drew, SetAt.drew (by have h1 := HSr.out.put 3 (by omega) (bits .or .u64 s.d xd); rw [orTo_put s ⟨xa, xb, xc, xd⟩ 3 (by omega) (bits .or .u64 s.d xd) rfl] at h1; exact h1), (HOr.out.put 3 _).drew⟩
        · have c0 := HR.out.rdr.c0
          have zp := HR.out.rdr.z 0
          simp only [Rs.rest] at c0
          clear f0 f1 f2 f3 g0 g1 g2 g3 z0 z1 z2 z3
          go_wp2_with fail
          go_end0
          refine ⟨s.or ⟨xa, xb, xc, xd⟩, .ok r1, rfl, ⟨HR.out.rdr.set0 r1, fun e he => by cases he⟩, ?_, ?_, Out.good Hc.out rfl⟩
          · rw [← orTo_all]
            exact HSr.out.keep (Below.heap_setCell _ _ _ _ (by show b ≠ p; omega))
          · exact HOr.out.trans (Offs.of ((Off.refl p _).set 0 _))
end Go.Proofs.YthlakbjnmbddaaaGreatDoor

/- The pattern reader's item: walked. (Printed by wip/tools/genitem.py.) -/
set_option linter.unusedVariables false
set_option linter.unusedSimpArgs false
namespace Go.Proofs.YthlakbjnmbddaaaGreatDoor
open Go.RowKit

def limI (c d : Nat) : Nat := if c ≤ d then d + 1 else c
theorem limI_self (c : Nat) : limI c c = c + 1 := by simp [limI]
theorem span_step (s : W4) (j lim : Nat) (h : j < lim) : (List.range' j (lim - j)).foldl W4.add s = (List.range' (j + 1) (lim - (j + 1))).foldl W4.add (s.add j) := by
  rw [show lim - j = (lim - (j + 1)) + 1 by omega, List.range'_succ, List.foldl_cons]
theorem span_one (s : W4) (c : Nat) : s.span c 1 = s.add c := rfl
theorem Offs.addW {p b : Nat} {w w' : World} (h : Offs p b w w') (s : W4) (c : Nat) : Offs p b w (addW w' b 0 s c).drew := (h.put _ _).drew
theorem pref_none {q r : Bs} (h : takeP q r = none) : q.isPrefixOf r = false := by
  unfold takeP at h
  cases hp : q.isPrefixOf r with
  | false => rfl
  | true => rw [hp] at h; simp at h
theorem pref_some {q r r' : Bs} (h : takeP q r = some r') : q.isPrefixOf r = true := by
  unfold takeP at h
  cases hp : q.isPrefixOf r with
  | true => rfl
  | false => rw [hp] at h; simp at h
set_option maxRecDepth 100000 in
set_option maxHeartbeats 8000000 in
theorem item_any (w : World) (p b : Nat) (op : Int) (r : Bs) (s : W4) (h : RS w p op (.ok r)) (hl : r.length ≤ 1024) (hb : p < b) (hS : SetAt w b s) :
    Calls Tryz.prog 146 #[.pointer (some ⟨p, 0, none⟩), .pointer (some ⟨b, 0, none⟩)] w fun en w' => GSet p b op itemP s r w en w' := by
  have H := Lib.hid h
  have HS := Lib.hid hS
  clear h hS
  cases ht : takeP [91, 58] r with
  | some r1 =>
    have Hi := Lib.hid (show itemP s r = classP s r1 by simp only [itemP, ht])
    have hl1 : r1.length ≤ 1024 := by
      have : r1 <:+ r := takeP_suf ht
      have := this.length_le
      omega
    have Ht := Lib.hid ht; clear ht
    go_enter Tryz.func146, Tryz.ntmps146
    go_wp2_with fail
    refine (take_hit [91, 58] (by simp) Ht.out H.out).mono ?_
    rintro en w1 ⟨rfl, h1, hO1⟩
    have HS1 := Lib.hid (HS.out.off hO1 (by omega))
    have H1 := Lib.hid h1; have HO1 := Lib.hid hO1
    clear h1 hO1
    go_wp2_with fail
    refine (class_any w1 p b op r1 s H1.out hl1 hb HS1.out).mono ?_
    rintro en w2 ⟨S, s', rfl, h2, hS2, hO2, ho⟩
    have Ho := Lib.hid ho; have H2 := Lib.hid h2; have HS2 := Lib.hid hS2; have HO2 := Lib.hid hO2
    clear ho h2 hS2 hO2
    go_wp2_with fail
    go_end0
    exact ⟨S, s', rfl, H2.out, HS2.out, (Offs.of HO1.out).trans HO2.out, by have := Ho.out; simp only [Out] at this ⊢; rw [Hi.out]; exact this⟩
  | none =>
  cases ht2 : takeP [91, 61] r with
  | some r1 =>
    have Hi := Lib.hid (show itemP s r = match singleP 61 r1 with | .error e => .error e | .ok (c, r2) => .ok (s.add c, r2) by simp only [itemP, ht, ht2]; rfl)
    have Ht := Lib.hid ht; have Ht2 := Lib.hid ht2; clear ht ht2
    go_enter Tryz.func146, Tryz.ntmps146
    go_wp2_with fail
    refine (take_miss [91, 58] (by simp) Ht.out H.out).mono ?_
    rintro en w1 ⟨rfl, h1, hO1⟩
    go_wp2_with fail
    refine (take_hit [91, 61] (by simp) Ht2.out h1).mono ?_
    rintro en w2 ⟨rfl, h2, hO2⟩
    have HO2 := Lib.hid (hO1.trans hO2)
    clear hO1 h1
    go_wp2_with fail
    refine (single_any w2 p op r1 61 h2).mono ?_
    rintro en w3 ⟨c, s', hc, rfl, h3, hO3, ho⟩
    have HO3 := Lib.hid (HO2.out.trans hO3)
    have HS3 := Lib.hid (HS.out.off HO3.out (by omega))
    have Ho := Lib.hid ho; have H3 := Lib.hid h3
    clear ho h3 hO3 h2 hO2
    go_wp2_with fail
    refine (add_any w3 b 0 s c hc HS3.out.at4 HS3.out.froz).mono ?_
    rintro en w4 ⟨rfl, rfl⟩
    go_wp2_with fail
    go_end0
    refine ⟨s.add c, s', rfl, H3.out.putW hb 0 s c, (HS3.out.addW c hc).drew, (Offs.of HO3.out).addW s c, ?_⟩
    have hho := Ho.out
    simp only [Out, Hi.out] at hho ⊢
    cases hsg : singleP 61 r1 with
    | error e => simp only [hsg] at hho ⊢; exact hho
    | ok y => obtain ⟨c', r2⟩ := y; simp only [hsg] at hho ⊢; obtain ⟨rfl, h'⟩ := hho; exact ⟨rfl, h'⟩
  | none =>
    have Hi := Lib.hid (show itemP s r = match memberP r with | .error e => .error e | .ok (c, r1) => rangeP s c r1 by simp only [itemP, ht, ht2]; rfl)
    have Ht := Lib.hid ht; have Ht2 := Lib.hid ht2; clear ht ht2
    go_enter Tryz.func146, Tryz.ntmps146
    go_wp2_with fail
    refine (take_miss [91, 58] (by simp) Ht.out H.out).mono ?_
    rintro en w1 ⟨rfl, h1, hO1⟩
    go_wp2_with fail
    refine (take_miss [91, 61] (by simp) Ht2.out h1).mono ?_
    rintro en w2 ⟨rfl, h2, hO2⟩
    have HO2 := Lib.hid (hO1.trans hO2)
    clear hO1 h1
    go_wp2_with fail
    refine (member_any w2 p op r h2).mono ?_
    rintro en w3 ⟨c, s1, hc, rfl, h3, hO3, ho⟩
    have HO3 := Lib.hid (HO2.out.trans hO3)
    have HS3 := Lib.hid (HS.out.off HO3.out (by omega))
    have Ho := Lib.hid ho; have H3 := Lib.hid h3
    clear ho h3 hO3 h2 hO2 HO2 Ht Ht2
    have c0 := H3.out.rdr.c0
    cases s1 with
    | error e =>
      have Hi := Lib.hid (show itemP s r = .error e by
        have hho := Ho.out
        simp only [Out] at hho
        rw [Hi.out]
        cases hm : memberP r with
        | error e' => simp only [hm] at hho ⊢; cases hho; rfl
        | ok y => obtain ⟨c', r2⟩ := y; simp only [hm] at hho; cases hho.2)
      clear Ho
      simp only [Rs.rest] at c0
      go_wp2_with fail
      refine (shasP_any [] [45] w3).mono ?_
      rintro en w4 ⟨rfl, rfl⟩
      go_wp2_with fail
      obtain ⟨lim, hlim⟩ : ∃ lim, lim = limI c c := ⟨_, rfl⟩
      have hlim2 : c ≤ lim ∧ lim ≤ 256 ∧ ∀ j, c ≤ j → j ≤ lim → (j < lim ↔ j ≤ c) := by
        rw [hlim]; unfold limI
        split <;> exact ⟨by omega, by omega, fun j h1 h2 => by omega⟩
      obtain ⟨hm1, hm2, hm3⟩ := hlim2
      have Hlim := Lib.hid hlim; clear hlim
      go_loopg [6] (lim - c) (fun k i wr => ∃ (j : Nat) (S : W4), i = .int .i64 j ∧ j + k = lim ∧ c ≤ j ∧ RS wr p op (.error e) ∧ SetAt wr b S ∧ Offs p b w wr ∧ (List.range' j (lim - j)).foldl W4.add S = s.span c (lim - c))
      case atStart => exact ⟨c, s, by go_num, by omega, Nat.le_refl _, H3.out, HS3.out, .of HO3.out, rfl⟩
      case round =>
        obtain ⟨j, S, rfl, hj, hcj, hR, hS, hO, hsp⟩ := hrel
        have HRr := Lib.hid hR; have HSr := Lib.hid hS; have HOr := Lib.hid hO; have Hsp := Lib.hid hsp
        clear hR hS hO hsp
        have hjd := hm3 j hcj (by omega)
        by_cases hlt : j < lim
        · have hle : j ≤ c := hjd.1 hlt
          have hmod : IntKind.u8.wrap (j : Int) = (j : Int) := by simp [IntKind.wrap, IntKind.signed, IntKind.bits]; omega
          clear hjd hm3
          go_wp2_with fail
          refine (add_any wr b 0 S j (by omega) HSr.out.at4 HSr.out.froz).mono ?_
          rintro en wx ⟨rfl, rfl⟩
          go_wp2_with fail
          go_roundg (gk - 1)
          case measure => omega
          case rel => exact ⟨j + 1, S.add j, by go_num, by omega, by omega, HRr.out.putW hb 0 S j, (HSr.out.addW j (by omega)).drew, HOr.out.addW S j, (span_step S j lim hlt).symm.trans Hsp.out⟩
        · have hle : ¬ j ≤ c := fun h => hlt (hjd.2 h)
          have hS : S = s.span c (lim - c) := by rw [← Hsp.out, show lim - j = 0 by omega]; rfl
          clear hjd hm3
          go_wp2_with fail
          go_end0
          subst hS
          exact ⟨_, _, rfl, HRr.out, HSr.out, HOr.out, Out.bad Hi.out⟩
    | ok r1 =>
      have Hi := Lib.hid (show itemP s r = rangeP s c r1 by
        have hho := Ho.out
        simp only [Out] at hho
        rw [Hi.out]
        cases hm : memberP r with
        | error e' => simp only [hm] at hho; cases hho
        | ok y => obtain ⟨c', r2⟩ := y; simp only [hm] at hho ⊢; obtain ⟨rfl, h'⟩ := hho; cases h'; rfl)
      have hl1 : r1.length ≤ 1024 := by
        have hho := Ho.out
        simp only [Out] at hho
        cases hm : memberP r with
        | error e' => simp only [hm] at hho; cases hho
        | ok y =>
          obtain ⟨c', r2⟩ := y
          simp only [hm] at hho
          obtain ⟨_, h'⟩ := hho; cases h'
          have := (member_suf hm).length_le
          omega
      clear Ho
      simp only [Rs.rest] at c0
      cases ht : takeP [45] r1 with
      | none =>
        have Hi := Lib.hid (show itemP s r = .ok (s.add c, r1) by rw [Hi.out]; simp only [rangeP, ht])
        have hp := pref_none ht
        clear ht
        go_wp2_with fail
        refine (shasP_any r1 [45] w3).mono ?_
        rintro en w4 ⟨rfl, rfl⟩
        rw [hp]
        go_wp2_with fail
        obtain ⟨lim, hlim⟩ : ∃ lim, lim = limI c c := ⟨_, rfl⟩
        have hlim2 : c ≤ lim ∧ lim ≤ 256 ∧ ∀ j, c ≤ j → j ≤ lim → (j < lim ↔ j ≤ c) := by
          rw [hlim]; unfold limI
          split <;> exact ⟨by omega, by omega, fun j h1 h2 => by omega⟩
        obtain ⟨hm1, hm2, hm3⟩ := hlim2
        have Hlim := Lib.hid hlim; clear hlim
        go_loopg [6] (lim - c) (fun k i wr => ∃ (j : Nat) (S : W4), i = .int .i64 j ∧ j + k = lim ∧ c ≤ j ∧ RS wr p op (.ok r1) ∧ SetAt wr b S ∧ Offs p b w wr ∧ (List.range' j (lim - j)).foldl W4.add S = s.span c (lim - c))
        case atStart => exact ⟨c, s, by go_num, by omega, Nat.le_refl _, H3.out, HS3.out, .of HO3.out, rfl⟩
        case round =>
          obtain ⟨j, S, rfl, hj, hcj, hR, hS, hO, hsp⟩ := hrel
          have HRr := Lib.hid hR; have HSr := Lib.hid hS; have HOr := Lib.hid hO; have Hsp := Lib.hid hsp
          clear hR hS hO hsp
          have hjd := hm3 j hcj (by omega)
          by_cases hlt : j < lim
          · have hle : j ≤ c := hjd.1 hlt
            have hmod : IntKind.u8.wrap (j : Int) = (j : Int) := by simp [IntKind.wrap, IntKind.signed, IntKind.bits]; omega
            clear hjd hm3
            go_wp2_with fail
            refine (add_any wr b 0 S j (by omega) HSr.out.at4 HSr.out.froz).mono ?_
            rintro en wx ⟨rfl, rfl⟩
            go_wp2_with fail
            go_roundg (gk - 1)
            case measure => omega
            case rel => exact ⟨j + 1, S.add j, by go_num, by omega, by omega, HRr.out.putW hb 0 S j, (HSr.out.addW j (by omega)).drew, HOr.out.addW S j, (span_step S j lim hlt).symm.trans Hsp.out⟩
          · have hle : ¬ j ≤ c := fun h => hlt (hjd.2 h)
            have hS : S = s.span c (lim - c) := by rw [← Hsp.out, show lim - j = 0 by omega]; rfl
            clear hjd hm3
            go_wp2_with fail
            go_end0
            subst hS
            exact ⟨_, _, rfl, HRr.out, HSr.out, HOr.out, Out.good Hi.out (by rw [Hlim.out, limI_self, show c + 1 - c = 1 by omega, span_one])⟩
      | some r2 =>
        have hp := pref_some ht
        cases ht2 : takeP [45, 93] r1 with
        | some r3 =>
          have Hi := Lib.hid (show itemP s r = .ok (s.add c, r1) by rw [Hi.out]; simp only [rangeP, ht, ht2])
          have hp2 := pref_some ht2
          clear ht ht2
          go_wp2_with fail
          refine (shasP_any r1 [45] w3).mono ?_
          rintro en w4 ⟨rfl, rfl⟩
          rw [hp]
          go_wp2_with fail
          refine (shasP_any r1 [45, 93] w4).mono ?_
          rintro en w5 ⟨rfl, rfl⟩
          rw [hp2]
          go_wp2_with fail
          obtain ⟨lim, hlim⟩ : ∃ lim, lim = limI c c := ⟨_, rfl⟩
          have hlim2 : c ≤ lim ∧ lim ≤ 256 ∧ ∀ j, c ≤ j → j ≤ lim → (j < lim ↔ j ≤ c) := by
            rw [hlim]; unfold limI
            split <;> exact ⟨by omega, by omega, fun j h1 h2 => by omega⟩
          obtain ⟨hm1, hm2, hm3⟩ := hlim2
          have Hlim := Lib.hid hlim; clear hlim
          go_loopg [6] (lim - c) (fun k i wr => ∃ (j : Nat) (S : W4), i = .int .i64 j ∧ j + k = lim ∧ c ≤ j ∧ RS wr p op (.ok r1) ∧ SetAt wr b S ∧ Offs p b w wr ∧ (List.range' j (lim - j)).foldl W4.add S = s.span c (lim - c))
          case atStart => exact ⟨c, s, by go_num, by omega, Nat.le_refl _, H3.out, HS3.out, .of HO3.out, rfl⟩
          case round =>
            obtain ⟨j, S, rfl, hj, hcj, hR, hS, hO, hsp⟩ := hrel
            have HRr := Lib.hid hR; have HSr := Lib.hid hS; have HOr := Lib.hid hO; have Hsp := Lib.hid hsp
            clear hR hS hO hsp
            have hjd := hm3 j hcj (by omega)
            by_cases hlt : j < lim
            · have hle : j ≤ c := hjd.1 hlt
              have hmod : IntKind.u8.wrap (j : Int) = (j : Int) := by simp [IntKind.wrap, IntKind.signed, IntKind.bits]; omega
              clear hjd hm3
              go_wp2_with fail
              refine (add_any wr b 0 S j (by omega) HSr.out.at4 HSr.out.froz).mono ?_
              rintro en wx ⟨rfl, rfl⟩
              go_wp2_with fail
              go_roundg (gk - 1)
              case measure => omega
              case rel => exact ⟨j + 1, S.add j, by go_num, by omega, by omega, HRr.out.putW hb 0 S j, (HSr.out.addW j (by omega)).drew, HOr.out.addW S j, (span_step S j lim hlt).symm.trans Hsp.out⟩
            · have hle : ¬ j ≤ c := fun h => hlt (hjd.2 h)
              have hS : S = s.span c (lim - c) := by rw [← Hsp.out, show lim - j = 0 by omega]; rfl
              clear hjd hm3
              go_wp2_with fail
              go_end0
              subst hS
              exact ⟨_, _, rfl, HRr.out, HSr.out, HOr.out, Out.good Hi.out (by rw [Hlim.out, limI_self, show c + 1 - c = 1 by omega, span_one])⟩
        | none =>
          have hp2 := pref_none ht2
          have Ht := Lib.hid ht
          have hl2 : r2.length ≤ 1024 := by have := (takeP_suf ht).length_le; omega
          go_wp2_with fail
          refine (shasP_any r1 [45] w3).mono ?_
          rintro en w4 ⟨rfl, rfl⟩
          rw [hp]
          go_wp2_with fail
          refine (shasP_any r1 [45, 93] w4).mono ?_
          rintro en w5 ⟨rfl, rfl⟩
          rw [hp2]
          go_wp2_with fail
          refine (take_hit [45] (by simp) Ht.out H3.out).mono ?_
          rintro en w6 ⟨rfl, h6, hO6⟩
          have HO6 := Lib.hid (HO3.out.trans hO6)
          have HS6 := Lib.hid (HS.out.off HO6.out (by omega))
          have H6 := Lib.hid h6
          clear hO6 h6 c0
          have c0 := H6.out.rdr.c0
          simp only [Rs.rest] at c0
          cases ha : takeP [91, 58] r2 with
          | some y =>
            have Hi := Lib.hid (show itemP s r = .error 101 by rw [Hi.out]; simp [rangeP, ht, ht2, ha])
            have hp3 := pref_some ha
            clear ha ht ht2
            go_wp2_with fail
            refine (shasP_any r2 [91, 58] w6).mono ?_
            rintro en w7 ⟨rfl, rfl⟩
            rw [hp3]
            go_wp2_with fail
            refine (fail_ok 101 (by omega) H6.out).mono ?_
            rintro en w8 ⟨rfl, h8, hO8⟩
            go_wp2_with fail
            go_end0
            exact ⟨s, _, rfl, h8, HS6.out.off hO8 (by omega), .of (HO6.out.trans hO8), Out.bad Hi.out⟩
          | none =>
          have hp3 := pref_none ha
          cases hb2 : takeP [91, 61] r2 with
          | some y =>
            have Hi := Lib.hid (show itemP s r = .error 101 by rw [Hi.out]; simp [rangeP, ht, ht2, ha, hb2])
            have hp4 := pref_some hb2
            clear ha ht ht2 hb2
            go_wp2_with fail
            refine (shasP_any r2 [91, 58] w6).mono ?_
            rintro en w7 ⟨rfl, rfl⟩
            rw [hp3]
            go_wp2_with fail
            refine (shasP_any r2 [91, 61] w7).mono ?_
            rintro en w8 ⟨rfl, rfl⟩
            rw [hp4]
            go_wp2_with fail
            refine (fail_ok 101 (by omega) H6.out).mono ?_
            rintro en w9 ⟨rfl, h8, hO8⟩
            go_wp2_with fail
            go_end0
            exact ⟨s, _, rfl, h8, HS6.out.off hO8 (by omega), .of (HO6.out.trans hO8), Out.bad Hi.out⟩
          | none =>
            have Hi := Lib.hid (show itemP s r = match memberP r2 with | .error e => .error e | .ok (to_, r2) => if to_ < c then .error 102 else .ok (s.span c (to_ + 1 - c), r2) by rw [Hi.out]; simp [rangeP, ht, ht2, ha, hb2]; rfl)
            have hp4 := pref_none hb2
            clear ha ht ht2 hb2
            go_wp2_with fail
            refine (shasP_any r2 [91, 58] w6).mono ?_
            rintro en w7 ⟨rfl, rfl⟩
            rw [hp3]
            go_wp2_with fail
            refine (shasP_any r2 [91, 61] w7).mono ?_
            rintro en w8 ⟨rfl, rfl⟩
            rw [hp4]
            go_wp2_with fail
            refine (member_any w8 p op r2 H6.out).mono ?_
            rintro en w9 ⟨d, s2, hd, rfl, h9, hO9, ho⟩
            have HO9 := Lib.hid (HO6.out.trans hO9)
            have HS9 := Lib.hid (HS.out.off HO9.out (by omega))
            have Ho := Lib.hid ho; have H9 := Lib.hid h9
            clear ho h9 hO9 c0
            have c2 := H9.out.rdr.c2
            cases s2 with
            | error e =>
              have Hi := Lib.hid (show itemP s r = .error e by
                have hho := Ho.out
                simp only [Out] at hho
                rw [Hi.out]
                cases hm : memberP r2 with
                | error e' => simp only [hm] at hho ⊢; cases hho; rfl
                | ok y => obtain ⟨c', r2⟩ := y; simp only [hm] at hho; cases hho.2)
              have he0 := H9.out.ne e rfl
              clear Ho
              simp only [Rs.no] at c2
              go_wp2_with fail
              obtain ⟨lim, hlim⟩ : ∃ lim, lim = limI c d := ⟨_, rfl⟩
              have hlim2 : c ≤ lim ∧ lim ≤ 256 ∧ ∀ j, c ≤ j → j ≤ lim → (j < lim ↔ j ≤ d) := by
                rw [hlim]; unfold limI
                split <;> exact ⟨by omega, by omega, fun j h1 h2 => by omega⟩
              obtain ⟨hm1, hm2, hm3⟩ := hlim2
              have Hlim := Lib.hid hlim; clear hlim
              go_loopg [6] (lim - c) (fun k i wr => ∃ (j : Nat) (S : W4), i = .int .i64 j ∧ j + k = lim ∧ c ≤ j ∧ RS wr p op (.error e) ∧ SetAt wr b S ∧ Offs p b w wr ∧ (List.range' j (lim - j)).foldl W4.add S = s.span c (lim - c))
              case atStart => exact ⟨c, s, by go_num, by omega, Nat.le_refl _, H9.out, HS9.out, .of HO9.out, rfl⟩
              case round =>
                obtain ⟨j, S, rfl, hj, hcj, hR, hS, hO, hsp⟩ := hrel
                have HRr := Lib.hid hR; have HSr := Lib.hid hS; have HOr := Lib.hid hO; have Hsp := Lib.hid hsp
                clear hR hS hO hsp
                have hjd := hm3 j hcj (by omega)
                by_cases hlt : j < lim
                · have hle : j ≤ d := hjd.1 hlt
                  have hmod : IntKind.u8.wrap (j : Int) = (j : Int) := by simp [IntKind.wrap, IntKind.signed, IntKind.bits]; omega
                  clear hjd hm3
                  go_wp2_with fail
                  refine (add_any wr b 0 S j (by omega) HSr.out.at4 HSr.out.froz).mono ?_
                  rintro en wx ⟨rfl, rfl⟩
                  go_wp2_with fail
                  go_roundg (gk - 1)
                  case measure => omega
                  case rel => exact ⟨j + 1, S.add j, by go_num, by omega, by omega, HRr.out.putW hb 0 S j, (HSr.out.addW j (by omega)).drew, HOr.out.addW S j, (span_step S j lim hlt).symm.trans Hsp.out⟩
                · have hle : ¬ j ≤ d := fun h => hlt (hjd.2 h)
                  have hS : S = s.span c (lim - c) := by rw [← Hsp.out, show lim - j = 0 by omega]; rfl
                  clear hjd hm3
                  go_wp2_with fail
                  go_end0
                  subst hS
                  exact ⟨_, _, rfl, HRr.out, HSr.out, HOr.out, Out.bad Hi.out⟩
            | ok r3 =>
              have Hi := Lib.hid (show itemP s r = if d < c then .error 102 else .ok (s.span c (d + 1 - c), r3) by
                have hho := Ho.out
                simp only [Out] at hho
                rw [Hi.out]
                cases hm : memberP r2 with
                | error e' => simp only [hm] at hho; cases hho
                | ok y => obtain ⟨c', r2⟩ := y; simp only [hm] at hho ⊢; obtain ⟨rfl, h'⟩ := hho; cases h'; rfl)
              clear Ho
              simp only [Rs.no] at c2
              by_cases hdc : d < c
              · have Hi := Lib.hid (show itemP s r = .error 102 by rw [Hi.out, if_pos hdc])
                go_wp2_with fail
                refine (fail_ok 102 (by omega) H9.out).mono ?_
                rintro en w10 ⟨rfl, h8, hO8⟩
                have HO10 := Lib.hid (HO9.out.trans hO8)
                have HS10 := Lib.hid (HS.out.off HO10.out (by omega))
                have H10 := Lib.hid h8
                clear h8 hO8
                go_wp2_with fail
                obtain ⟨lim, hlim⟩ : ∃ lim, lim = limI c d := ⟨_, rfl⟩
                have hlim2 : c ≤ lim ∧ lim ≤ 256 ∧ ∀ j, c ≤ j → j ≤ lim → (j < lim ↔ j ≤ d) := by
                  rw [hlim]; unfold limI
                  split <;> exact ⟨by omega, by omega, fun j h1 h2 => by omega⟩
                obtain ⟨hm1, hm2, hm3⟩ := hlim2
                have Hlim := Lib.hid hlim; clear hlim
                go_loopg [6] (lim - c) (fun k i wr => ∃ (j : Nat) (S : W4), i = .int .i64 j ∧ j + k = lim ∧ c ≤ j ∧ RS wr p op (.error 102) ∧ SetAt wr b S ∧ Offs p b w wr ∧ (List.range' j (lim - j)).foldl W4.add S = s.span c (lim - c))
                case atStart => exact ⟨c, s, by go_num, by omega, Nat.le_refl _, H10.out, HS10.out, .of HO10.out, rfl⟩
                case round =>
                  obtain ⟨j, S, rfl, hj, hcj, hR, hS, hO, hsp⟩ := hrel
                  have HRr := Lib.hid hR; have HSr := Lib.hid hS; have HOr := Lib.hid hO; have Hsp := Lib.hid hsp
                  clear hR hS hO hsp
                  have hjd := hm3 j hcj (by omega)
                  by_cases hlt : j < lim
                  · have hle : j ≤ d := hjd.1 hlt
                    have hmod : IntKind.u8.wrap (j : Int) = (j : Int) := by simp [IntKind.wrap, IntKind.signed, IntKind.bits]; omega
                    clear hjd hm3
                    go_wp2_with fail
                    refine (add_any wr b 0 S j (by omega) HSr.out.at4 HSr.out.froz).mono ?_
                    rintro en wx ⟨rfl, rfl⟩
                    go_wp2_with fail
                    go_roundg (gk - 1)
                    case measure => omega
                    case rel => exact ⟨j + 1, S.add j, by go_num, by omega, by omega, HRr.out.putW hb 0 S j, (HSr.out.addW j (by omega)).drew, HOr.out.addW S j, (span_step S j lim hlt).symm.trans Hsp.out⟩
                  · have hle : ¬ j ≤ d := fun h => hlt (hjd.2 h)
                    have hS : S = s.span c (lim - c) := by rw [← Hsp.out, show lim - j = 0 by omega]; rfl
                    clear hjd hm3
                    go_wp2_with fail
                    go_end0
                    subst hS
                    exact ⟨_, _, rfl, HRr.out, HSr.out, HOr.out, Out.bad Hi.out⟩
              · have Hi := Lib.hid (show itemP s r = .ok (s.span c (d + 1 - c), r3) by rw [Hi.out, if_neg hdc])
                go_wp2_with fail
                obtain ⟨lim, hlim⟩ : ∃ lim, lim = limI c d := ⟨_, rfl⟩
                have hlim2 : c ≤ lim ∧ lim ≤ 256 ∧ ∀ j, c ≤ j → j ≤ lim → (j < lim ↔ j ≤ d) := by
                  rw [hlim]; unfold limI
                  split <;> exact ⟨by omega, by omega, fun j h1 h2 => by omega⟩
                obtain ⟨hm1, hm2, hm3⟩ := hlim2
                have Hlim := Lib.hid hlim; clear hlim
                go_loopg [6] (lim - c) (fun k i wr => ∃ (j : Nat) (S : W4), i = .int .i64 j ∧ j + k = lim ∧ c ≤ j ∧ RS wr p op (.ok r3) ∧ SetAt wr b S ∧ Offs p b w wr ∧ (List.range' j (lim - j)).foldl W4.add S = s.span c (lim - c))
                case atStart => exact ⟨c, s, by go_num, by omega, Nat.le_refl _, H9.out, HS9.out, .of HO9.out, rfl⟩
                case round =>
                  obtain ⟨j, S, rfl, hj, hcj, hR, hS, hO, hsp⟩ := hrel
                  have HRr := Lib.hid hR; have HSr := Lib.hid hS; have HOr := Lib.hid hO; have Hsp := Lib.hid hsp
                  clear hR hS hO hsp
                  have hjd := hm3 j hcj (by omega)
                  by_cases hlt : j < lim
                  · have hle : j ≤ d := hjd.1 hlt
                    have hmod : IntKind.u8.wrap (j : Int) = (j : Int) := by simp [IntKind.wrap, IntKind.signed, IntKind.bits]; omega
                    clear hjd hm3
                    go_wp2_with fail
                    refine (add_any wr b 0 S j (by omega) HSr.out.at4 HSr.out.froz).mono ?_
                    rintro en wx ⟨rfl, rfl⟩
                    go_wp2_with fail
                    go_roundg (gk - 1)
                    case measure => omega
                    case rel => exact ⟨j + 1, S.add j, by go_num, by omega, by omega, HRr.out.putW hb 0 S j, (HSr.out.addW j (by omega)).drew, HOr.out.addW S j, (span_step S j lim hlt).symm.trans Hsp.out⟩
                  · have hle : ¬ j ≤ d := fun h => hlt (hjd.2 h)
                    have hS : S = s.span c (lim - c) := by rw [← Hsp.out, show lim - j = 0 by omega]; rfl
                    clear hjd hm3
                    go_wp2_with fail
                    go_end0
                    subst hS
                    exact ⟨_, _, rfl, HRr.out, HSr.out, HOr.out, Out.good Hi.out (by rw [Hlim.out]; unfold limI; rw [if_pos (by omega)])⟩
end Go.Proofs.YthlakbjnmbddaaaGreatDoor

/- The pattern reader's bracket: walked. -/
set_option linter.unusedVariables false
set_option linter.unusedSimpArgs false
namespace Go.Proofs.YthlakbjnmbddaaaGreatDoor
open Go.RowKit

theorem single_lt {g : UInt8} {r r' : Bs} {c : Nat} (h : singleP g r = .ok (c, r')) : r'.length < r.length := by
  unfold singleP at h
  split at h
  · cases h
  · split at h
    · rename_i h1; cases h; have := takeP_len h1; simp at *; omega
    · cases h
theorem member_lt {r r' : Bs} {c : Nat} (h : memberP r = .ok (c, r')) : r'.length < r.length := by
  unfold memberP at h
  split at h
  · rename_i h1; have := takeP_len h1; have := single_lt h; simp at *; omega
  · split at h
    · cases h
    · cases h; simp
theorem rangeP_len {s s' : W4} {c : Nat} {r r' : Bs} (h : rangeP s c r = .ok (s', r')) : r'.length ≤ r.length := by
  unfold rangeP at h
  split at h
  · rename_i r1 h1 _
    have := takeP_len h1
    split at h
    · cases h
    · split at h
      · cases h
      · rename_i h2
        split at h
        · cases h
        · cases h; have := member_lt h2; omega
  · cases h; exact Nat.le_refl _
theorem item_lt {s s' : W4} {r r' : Bs} (h : itemP s r = .ok (s', r')) : r'.length < r.length := by
  unfold itemP at h
  split at h
  · rename_i h1
    have := takeP_len h1; have := class_len h; simp at *; omega
  · split at h
    · rename_i h1
      have := takeP_len h1
      split at h
      · cases h
      · rename_i h2; cases h; have := single_lt h2; simp at *; omega
    · split at h
      · cases h
      · rename_i h2; have := member_lt h2; have := rangeP_len h; omega
def W4.notTo (s : W4) (i : Nat) : W4 := ⟨if 0 < i then notI s.a else s.a, if 1 < i then notI s.b else s.b, if 2 < i then notI s.c else s.c, if 3 < i then notI s.d else s.d⟩
theorem notTo_all (s : W4) : s.notTo 4 = s.not := by simp [W4.notTo, W4.not]
theorem notTo_0 (s : W4) : s.notTo 0 = s := by simp [W4.notTo]
theorem notTo_put (s : W4) (i : Nat) (hi : i < 4) (u : Int) (hu : u = notI (s.word i)) : (s.notTo i).put i u = s.notTo (i + 1) := by
  subst hu
  rcases (show i = 0 ∨ i = 1 ∨ i = 2 ∨ i = 3 by omega) with rfl | rfl | rfl | rfl <;> simp [W4.notTo, W4.put, W4.word]
theorem SetAt.new (w : World) : SetAt (w.alloc (.cells #[.int .u64 0, .int .u64 0, .int .u64 0, .int .u64 0] 28)) w.heap.size w40 := heap_alloc_new w _
theorem SetAt.setV {w : World} {b : Nat} {s : W4} (h : SetAt w b s) (S : W4) : SetAt (setV w b S) b S := by
  have := (((h.put 0 (by omega) S.a).put 1 (by omega) S.b).put 2 (by omega) S.c).put 3 (by omega) S.d
  unfold Go.Proofs.YthlakbjnmbddaaaGreatDoor.setV
  simpa [W4.put] using this
theorem bracket_cases (r : Bs) : ∃ (neg : Bool) (r0 : Bs), takeS [94] (.ok r) = (neg, .ok r0) ∧ r0.length ≤ r.length ∧
    bracketP r = match itemsP (r0.length + 1) w40 r0 with | .error e => .error e | .ok (s, r2) => .ok (if neg then s.not else s, r2) := by
  unfold bracketP
  cases ht : takeP [94] r with
  | none => refine ⟨false, r, by simp only [takeS, ht], Nat.le_refl _, ?_⟩; simp only; cases itemsP (r.length + 1) w40 r <;> simp
  | some r1 => exact ⟨true, r1, by simp only [takeS, ht], by have := takeP_len ht; omega, by simp only [if_true]; rfl⟩
theorem items_bad {k : Nat} {S : W4} {r : Bs} {e : Int} (hk : 1 ≤ k) (h : itemP S r = .error e) : itemsP k S r = .error e := by
  obtain ⟨k', rfl⟩ : ∃ k', k = k' + 1 := ⟨k - 1, by omega⟩
  rw [itemsP, h]
theorem items_good {k : Nat} {S S' : W4} {r r' : Bs} (hk : 1 ≤ k) (h : itemP S r = .ok (S', r')) : itemsP k S r = match takeP [93] r' with | some r2 => .ok (S', r2) | none => itemsP (k - 1) S' r' := by
  obtain ⟨k', rfl⟩ : ∃ k', k = k' + 1 := ⟨k - 1, by omega⟩
  rw [itemsP, h]
  rfl
theorem out_bad {α : Type} {f : Bs → Except Int (α × Bs)} {r : Bs} {v : α → Prop} {e : Int} (h : Out f (.ok r) v (.error e)) : f r = .error e := by
  simp only [Out] at h
  cases hf : f r with
  | error e' => simp only [hf] at h; cases h; rfl
  | ok y => obtain ⟨x, r'⟩ := y; simp only [hf] at h; cases h.2
theorem out_good {α : Type} {f : Bs → Except Int (α × Bs)} {r r' : Bs} {v : α → Prop} (h : Out f (.ok r) v (.ok r')) : ∃ x, f r = .ok (x, r') ∧ v x := by
  simp only [Out] at h
  cases hf : f r with
  | error e' => simp only [hf] at h; cases h
  | ok y => obtain ⟨x, r2⟩ := y; simp only [hf] at h; obtain ⟨h1, h2⟩ := h; cases h2; exact ⟨x, rfl, h1⟩
theorem SetAt.offs {w w' : World} {p b c : Nat} {s : W4} (h : SetAt w c s) (k : Offs p b w w') (hp : c ≠ p) (hb : c ≠ b) : SetAt w' c s := h.keep (k.block c h.lt hp hb)
theorem xor_not {x : Int} (h : In64 x) : bits .xor .u64 IntKind.u64.max x = notI x := by
  have e : bits .xor .u64 IntKind.u64.max x = ((18446744073709551615 ^^^ x.toNat : Nat) : Int) := by
    have := bits_xor_u64_nat 18446744073709551615 x.toNat (by omega) (by have := h.1; have := h.2; omega)
    rw [show ((x.toNat : Nat) : Int) = x by have := h.1; omega] at this
    exact this
  have hlt : 18446744073709551615 ^^^ x.toNat < 2 ^ 64 := Nat.xor_lt_two_pow (by decide) (by have := h.1; have := h.2; omega)
  rw [e]
  refine word_ext ⟨by omega, by omega⟩ (notI_in h) fun k hk => ?_
  rw [notI_bit h k hk, Int.toNat_natCast, Nat.testBit_xor]
  have : (18446744073709551615 : Nat).testBit k = true := by
    have := Nat.testBit_two_pow_sub_one 64 k
    rw [show (2 : Nat) ^ 64 - 1 = 18446744073709551615 from rfl] at this
    rw [this]; simpa using hk
  rw [this, Bool.true_xor]
theorem whereW_ok (f : Nat → Bool) : Wok (whereW f) := by
  have : ∀ (l : List Nat) (s : W4), Wok s → (∀ c ∈ l, c < 256) → Wok (l.foldl (fun s c => if f c then s.add c else s) s) := by
    intro l
    induction l with
    | nil => intro s h _; exact h
    | cons c l ih =>
      intro s h hl
      rw [List.foldl_cons]
      refine ih _ ?_ (fun x hx => hl x (List.mem_cons_of_mem _ hx))
      split
      · exact add_ok h c (hl c (List.mem_cons_self ..))
      · exact h
  rw [whereW_def]
  exact this _ _ wok0 (fun c hc => List.mem_range.1 hc)
theorem class_wok {n : Bs} {x : W4} (h : classW n = some x) : Wok x := by
  by_cases hj : ∃ (j : Nat) (f : Nat → Bool), ckinds[j]? = some (none, .ins n f)
  · obtain ⟨j, f, hj⟩ := hj
    rw [class_hit hj] at h
    cases h
    exact whereW_ok f
  · rw [class_miss fun j f e => hj ⟨j, f, e⟩] at h
    cases h
theorem range_ok {s s' : W4} {c : Nat} {r r' : Bs} (hs : Wok s) (hc : c < 256) (h : rangeP s c r = .ok (s', r')) : Wok s' := by
  unfold rangeP at h
  split at h
  · split at h
    · cases h
    · split at h
      · cases h
      · rename_i d r2 h2
        have := memberP_lt h2
        split at h
        · cases h
        · cases h; exact (span_spec hs c (d + 1 - c) (by omega)).1
  · cases h; exact add_ok hs c hc
theorem item_ok {s s' : W4} {r r' : Bs} (hs : Wok s) (h : itemP s r = .ok (s', r')) : Wok s' := by
  unfold itemP at h
  split at h
  · unfold classP at h
    split at h
    · cases h
    · split at h
      · cases h
      · rename_i hx; cases h; exact or_ok hs (class_wok hx)
  · split at h
    · split at h
      · cases h
      · rename_i hx; cases h; exact add_ok hs _ (singleP_lt hx)
    · split at h
      · cases h
      · rename_i hx; exact range_ok hs (memberP_lt hx) h
theorem setV_size (w : World) (b : Nat) (S : W4) : (setV w b S).heap.size = w.heap.size := by simp [setV]
theorem setV_other (w : World) (b : Nat) (S : W4) (k : Nat) (hk : k ≠ b) : (setV w b S).heap[k]? = w.heap[k]? := by
  unfold setV
  iterate 3 rw [Below.heap_setCell _ _ _ _ hk]
  exact Below.heap_setCell _ _ _ _ hk
theorem Off.setV {p : Nat} {w w1 : World} (h : Off p w w1) {b : Nat} (hb : w.heap.size ≤ b) (S : W4) : Off p w (Go.Proofs.YthlakbjnmbddaaaGreatDoor.setV w1 b S) := (fun hbel => h.far hb (Below.os hbel) (Below.tape hbel) (Below.output hbel) (setV_size _ _ _) (fun k hk => setV_other _ _ _ _ hk)) ((Below.refl 0 w1).setV (Nat.zero_le b) S)
/-- Where the reading of a bracket stands. -/
def ItemsAt (first : Bool) (k : Nat) (S : W4) (r : Bs) (G : Except Int (W4 × Bs)) : Prop :=
  r.length + 1 ≤ k ∧ if first then itemsP k S r = G else (match takeP [93] r with | some r2 => .ok (S, r2) | none => itemsP k S r) = G

set_option maxRecDepth 100000 in
set_option maxHeartbeats 8000000 in
theorem brC : BrC := by
  intro w p op r h hl
  obtain ⟨neg, r0, htk, hl0, hbr⟩ := bracket_cases r
  have H := Lib.hid h; have Htk := Lib.hid htk; have Hbr := Lib.hid hbr
  have hp := h.lt
  clear h htk hbr
  go_enter Tryz.func129, Tryz.ntmps129
  go_wp2_with fail
  generalize hW0 : w.alloc _ = W0
  have hB0 : Below w.heap.size w W0 := by subst hW0; exact (Below.refl _ _).alloc (Nat.le_refl _) _
  have hR0 : SetAt W0 w.heap.size w40 := by subst hW0; exact SetAt.new w
  clear hW0
  have h0 := H.out.later hB0
  have ht := take_any W0 p op (.ok r) [94] (by simp) h0
  rw [Htk.out] at ht
  refine ht.mono ?_
  rintro en w1 ⟨rfl, h1, hO1⟩
  have hR1 := hR0.off hO1 (by omega)
  have hO1 : Off p w w1 := (Off.of_below hB0).trans hO1
  have hz1 : w.heap.size < w1.heap.size := hR1.lt
  clear ht hR0 h0 hB0
  simp only at h1
  have H1 := Lib.hid h1; have HR1 := Lib.hid hR1; have HO1 := Lib.hid hO1
  clear h1 hR1 hO1
  go_wp2_with fail
  generalize hW1 : w1.alloc _ = W1
  have hB1 : Below w1.heap.size w1 W1 := by subst hW1; exact (Below.refl _ _).alloc (Nat.le_refl _) _
  have hS2 : SetAt W1 w1.heap.size w40 := by subst hW1; exact SetAt.new w1
  clear hW1
  have H2 := Lib.hid (H1.out.later hB1)
  have HR2 := Lib.hid (HR1.out.off (Off.of_below (p := p) hB1) (by omega))
  have HO2 := Lib.hid (HO1.out.trans (Off.of_below (p := p) hB1))
  clear H1 HR1 HO1 hB1
  generalize w1.heap.size = b1 at *
  have HS2 := Lib.hid hS2
  clear hS2
  go_loopg [5] (r0.length + 1) (fun k f wr => ∃ (first : Bool) (S : W4) (r' : Bs), f = .bool first ∧ ItemsAt first k S r' (itemsP (r0.length + 1) w40 r0) ∧ Wok S ∧ r'.length ≤ 1024 ∧ RS wr p op (.ok r') ∧ SetAt wr w.heap.size w40 ∧ SetAt wr b1 S ∧ Off p w wr)
  case atStart => exact ⟨true, w40, r0, rfl, ⟨Nat.le_refl _, rfl⟩, wok0, by omega, H2.out, HR2.out, HS2.out, HO2.out⟩
  case round =>
    obtain ⟨first, S, r', rfl, ⟨hk, hG⟩, hwok, hr', hRr, hR0r, hSr, hOr⟩ := hrel
    have HRr := Lib.hid hRr; have HR0r := Lib.hid hR0r; have HSr := Lib.hid hSr; have HOr := Lib.hid hOr
    clear hRr hR0r hSr hOr H2 HR2 HS2 HO2
    cases first with
    | true =>
      have HG1 := Lib.hid (show itemsP gk S r' = itemsP (r0.length + 1) w40 r0 by simpa using hG)
      clear hG
      go_wp2_with fail
      refine (item_any wr p b1 op r' S HRr.out hr' (by omega) HSr.out).mono ?_
      rintro en wx ⟨S', s', rfl, hx, hSx, hOx, ho⟩
      have HRx := Lib.hid (HR0r.out.offs hOx (by omega) (by omega))
      have HOx := Lib.hid (Offs.off HOr.out hOx (by omega))
      have HX := Lib.hid hx; have HSx := Lib.hid hSx
      have c2 := hx.rdr.c2
      cases s' with
      | error e =>
        have hit := out_bad ho
        have hbe := Lib.hid (show bracketP r = .error e by rw [Hbr.out, ← HG1.out, items_bad (by omega) hit])
        have he0 := hx.ne e rfl
        clear ho hx hSx hOx hit HG1
        simp only [Rs.no] at c2
        obtain ⟨f0, f1, f2, f3⟩ := HSx.out.at4
        obtain ⟨g0, g1, g2, g3⟩ := HRx.out.at4
        have y0 := HRx.out.froz 0; have y1 := HRx.out.froz 1; have y2 := HRx.out.froz 2; have y3 := HRx.out.froz 3
        simp only [Nat.zero_add] at f1 f2 f3 g1 g2 g3
        go_wp2_with fail
        change bodyPost _ _ _ _ _ (setV _ w.heap.size S')
        obtain ⟨q0, q1, q2, q3⟩ := (HRx.out.setV S').at4
        simp only [Nat.zero_add] at q1 q2 q3
        have hRS : RS (setV _ w.heap.size S') p op _ := (((HX.out.put hp 0 (.int .u64 S'.a)).put hp 1 (.int .u64 S'.b)).put hp 2 (.int .u64 S'.c)).put hp 3 (.int .u64 S'.d)
        have hOff := Off.setV HOx.out (b := w.heap.size) (Nat.le_refl _) S'
        clear f0 f1 f2 f3 g0 g1 g2 g3 y0 y1 y2 y3
        generalize setV _ w.heap.size S' = W at *
        exact bodyPost_ret (v := S'.V) (by simp [results, Tryz.results129, go_sem, q0, q1, q2, q3]) rfl ⟨S', _, rfl, hRS, hOff, Out.bad hbe.out⟩

      | ok r2 =>
        obtain ⟨x, hit, rfl⟩ := out_good ho
        have hlt := item_lt hit
        have hwok2 := Lib.hid (item_ok hwok hit)
        have HG2 := Lib.hid (HG1.out.symm.trans (items_good (by omega) hit))
        clear ho hx hSx hOx hit HG1
        simp only [Rs.no] at c2
        go_wp2_with fail
        go_roundg (gk - 1)
        case measure => omega
        case rel => exact ⟨false, S', r2, rfl, ⟨by omega, HG2.out.symm⟩, hwok2.out, by omega, HX.out, HRx.out, HSx.out, HOx.out⟩
    | false =>
      have hG2 : (match takeP [93] r' with | some r2 => Except.ok (S, r2) | none => itemsP gk S r') = itemsP (r0.length + 1) w40 r0 := by simpa using hG
      clear hG
      cases ht : takeP [93] r' with
      | none =>
        rw [ht] at hG2
        have HG1 := Lib.hid (show itemsP gk S r' = itemsP (r0.length + 1) w40 r0 from hG2)
        have Ht := Lib.hid ht
        clear hG2 ht
        go_wp2_with fail
        refine (take_miss [93] (by simp) Ht.out HRr.out).mono ?_
        rintro en wr ⟨rfl, h3, hO3⟩
        have HR0r := Lib.hid (HR0r.out.off hO3 (by omega))
        have HSr := Lib.hid (HSr.out.off hO3 (by omega))
        have HOr := Lib.hid (HOr.out.trans hO3)
        have HRr := Lib.hid h3
        clear h3 hO3
        go_wp2_with fail
        refine (item_any wr p b1 op r' S HRr.out hr' (by omega) HSr.out).mono ?_
        rintro en wx ⟨S', s', rfl, hx, hSx, hOx, ho⟩
        have HRx := Lib.hid (HR0r.out.offs hOx (by omega) (by omega))
        have HOx := Lib.hid (Offs.off HOr.out hOx (by omega))
        have HX := Lib.hid hx; have HSx := Lib.hid hSx
        have c2 := hx.rdr.c2
        cases s' with
        | error e =>
          have hit := out_bad ho
          have hbe := Lib.hid (show bracketP r = .error e by rw [Hbr.out, ← HG1.out, items_bad (by omega) hit])
          have he0 := hx.ne e rfl
          clear ho hx hSx hOx hit HG1
          simp only [Rs.no] at c2
          obtain ⟨f0, f1, f2, f3⟩ := HSx.out.at4
          obtain ⟨g0, g1, g2, g3⟩ := HRx.out.at4
          have y0 := HRx.out.froz 0; have y1 := HRx.out.froz 1; have y2 := HRx.out.froz 2; have y3 := HRx.out.froz 3
          simp only [Nat.zero_add] at f1 f2 f3 g1 g2 g3
          go_wp2_with fail
          change bodyPost _ _ _ _ _ (setV _ w.heap.size S')
          obtain ⟨q0, q1, q2, q3⟩ := (HRx.out.setV S').at4
          simp only [Nat.zero_add] at q1 q2 q3
          have hRS : RS (setV _ w.heap.size S') p op _ := (((HX.out.put hp 0 (.int .u64 S'.a)).put hp 1 (.int .u64 S'.b)).put hp 2 (.int .u64 S'.c)).put hp 3 (.int .u64 S'.d)
          have hOff := Off.setV HOx.out (b := w.heap.size) (Nat.le_refl _) S'
          clear f0 f1 f2 f3 g0 g1 g2 g3 y0 y1 y2 y3
          generalize setV _ w.heap.size S' = W at *
          exact bodyPost_ret (v := S'.V) (by simp [results, Tryz.results129, go_sem, q0, q1, q2, q3]) rfl ⟨S', _, rfl, hRS, hOff, Out.bad hbe.out⟩

        | ok r2 =>
          obtain ⟨x, hit, rfl⟩ := out_good ho
          have hlt := item_lt hit
          have hwok2 := Lib.hid (item_ok hwok hit)
          have HG2 := Lib.hid (HG1.out.symm.trans (items_good (by omega) hit))
          clear ho hx hSx hOx hit HG1
          simp only [Rs.no] at c2
          go_wp2_with fail
          go_roundg (gk - 1)
          case measure => omega
          case rel => exact ⟨false, S', r2, rfl, ⟨by omega, HG2.out.symm⟩, hwok2.out, by omega, HX.out, HRx.out, HSx.out, HOx.out⟩
      | some r2 =>
        rw [ht] at hG2
        have Hbr2 := Lib.hid (show bracketP r = .ok (if neg then S.not else S, r2) by rw [Hbr.out, ← hG2])
        have Ht := Lib.hid ht
        clear hG2 ht
        go_wp2_with fail
        refine (take_hit [93] (by simp) Ht.out HRr.out).mono ?_
        rintro en wr2 ⟨rfl, h3, hO3⟩
        have HR0s := Lib.hid (HR0r.out.off hO3 (by omega))
        have HSs := Lib.hid (HSr.out.off hO3 (by omega))
        have HOs := Lib.hid (HOr.out.trans hO3)
        have HRs := Lib.hid h3
        clear h3 hO3 HRr HR0r HSr HOr Ht Htk Hbr
        go_wp2_with fail
        cases neg with
        | false =>
          go_loopg [23] 4 (fun k i wr => ∃ j : Nat, i = .int .i64 j ∧ j + k = 4 ∧ RS wr p op (.ok r2) ∧ SetAt wr w.heap.size w40 ∧ SetAt wr b1 S ∧ Off p w wr)
          case atStart => exact ⟨0, rfl, rfl, HRs.out, HR0s.out, HSs.out, HOs.out⟩
          case round =>
            obtain ⟨j, rfl, hj, h4, h5, h6, h7⟩ := hrel
            have HRt := Lib.hid h4; have HR0t := Lib.hid h5; have HSt := Lib.hid h6; have HOt := Lib.hid h7
            clear h4 h5 h6 h7 HRs HR0s HSs HOs
            by_cases hj4 : j < 4
            · go_wp2_with fail
              go_roundg (gk - 1)
              case measure => omega
              case rel => exact ⟨j + 1, by go_num, by omega, HRt.out, HR0t.out, HSt.out, HOt.out⟩
            · have Hbr3 := Lib.hid (show bracketP r = .ok (S, r2) by rw [Hbr2.out]; rfl)
              obtain ⟨f0, f1, f2, f3⟩ := HSt.out.at4
              obtain ⟨g0, g1, g2, g3⟩ := HR0t.out.at4
              have y0 := HR0t.out.froz 0; have y1 := HR0t.out.froz 1; have y2 := HR0t.out.froz 2; have y3 := HR0t.out.froz 3
              simp only [Nat.zero_add] at f1 f2 f3 g1 g2 g3
              go_wp2_with fail
              change bodyPost _ _ _ _ _ (setV _ w.heap.size S)
              obtain ⟨q0, q1, q2, q3⟩ := (HR0t.out.setV S).at4
              simp only [Nat.zero_add] at q1 q2 q3
              have hRS : RS (setV _ w.heap.size S) p op _ := (((HRt.out.put hp 0 (.int .u64 S.a)).put hp 1 (.int .u64 S.b)).put hp 2 (.int .u64 S.c)).put hp 3 (.int .u64 S.d)
              have hOff := Off.setV HOt.out (b := w.heap.size) (Nat.le_refl _) S
              clear f0 f1 f2 f3 g0 g1 g2 g3 y0 y1 y2 y3
              generalize setV _ w.heap.size S = W at *
              exact bodyPost_ret (v := S.V) (by simp [results, Tryz.results129, go_sem, q0, q1, q2, q3]) rfl ⟨S, _, rfl, hRS, hOff, Out.good Hbr3.out rfl⟩
        | true =>
          go_loopg [23] 4 (fun k i wr => ∃ j : Nat, i = .int .i64 j ∧ j + k = 4 ∧ RS wr p op (.ok r2) ∧ SetAt wr w.heap.size w40 ∧ SetAt wr b1 (S.notTo j) ∧ Off p w wr)
          case atStart => exact ⟨0, rfl, rfl, HRs.out, HR0s.out, by rw [notTo_0]; exact HSs.out, HOs.out⟩
          case round =>
            obtain ⟨j, rfl, hj, h4, h5, h6, h7⟩ := hrel
            have HRt := Lib.hid h4; have HR0t := Lib.hid h5; have HSt := Lib.hid h6; have HOt := Lib.hid h7
            have z0 := h6.froz 0; have z1 := h6.froz 1; have z2 := h6.froz 2; have z3 := h6.froz 3
            obtain ⟨f0, f1, f2, f3⟩ := h6.at4
            simp only [Nat.zero_add] at f1 f2 f3
            clear h4 h5 h6 h7 HRs HR0s HSs HOs
            rcases (show j = 0 ∨ j = 1 ∨ j = 2 ∨ j = 3 ∨ j = 4 by omega) with rfl | rfl | rfl | rfl | rfl
            · simp [W4.notTo] at f0
              go_wp2_with fail
              go_roundg (gk - 1)
              case measure => omega
              case rel => exact ⟨1, by go_num, by omega, HRt.out.put (by omega) 0 _, HR0t.out.keep (Below.heap_setCell _ _ _ _ (by show w.heap.size ≠ b1; omega)), (by have h1 := HSt.out.put 0 (by omega) (bits .xor .u64 IntKind.u64.max S.a); rw [notTo_put S 0 (by omega) (bits .xor .u64 IntKind.u64.max S.a) (xor_not hwok.a)] at h1; exact h1), HOt.out.far (b := b1) (by omega) rfl rfl rfl (by simp) (fun k hk => Below.heap_setCell _ _ _ _ hk)⟩
            · simp [W4.notTo] at f1
              go_wp2_with fail
              go_roundg (gk - 1)
              case measure => omega
              case rel => exact ⟨2, by go_num, by omega, HRt.out.put (by omega) 1 _, HR0t.out.keep (Below.heap_setCell _ _ _ _ (by show w.heap.size ≠ b1; omega)), (by have h1 := HSt.out.put 1 (by omega) (bits .xor .u64 IntKind.u64.max S.b); rw [notTo_put S 1 (by omega) (bits .xor .u64 IntKind.u64.max S.b) (xor_not hwok.b)] at h1; exact h1), HOt.out.far (b := b1) (by omega) rfl rfl rfl (by simp) (fun k hk => Below.heap_setCell _ _ _ _ hk)⟩
            · simp [W4.notTo] at f2
              go_wp2_with fail
              go_roundg (gk - 1)
              case measure => omega
              case rel => exact ⟨3, by go_num, by omega, HRt.out.put (by omega) 2 _, HR0t.out.keep (Below.heap_setCell _ _ _ _ (by show w.heap.size ≠ b1; omega)), (by have h1 := HSt.out.put 2 (by omega) (bits .xor .u64 IntKind.u64.max S.c); rw [notTo_put S 2 (by omega) (bits .xor .u64 IntKind.u64.max S.c) (xor_not hwok.c)] at h1; exact h1), HOt.out.far (b := b1) (by omega) rfl rfl rfl (by simp) (fun k hk => Below.heap_setCell _ _ _ _ hk)⟩
            · simp [W4.notTo] at f3
              go_wp2_with fail
              go_roundg (gk - 1)
              case measure => omega
              case rel => exact ⟨4, by go_num, by omega, HRt.out.put (by omega) 3 _, HR0t.out.keep (Below.heap_setCell _ _ _ _ (by show w.heap.size ≠ b1; omega)), (by have h1 := HSt.out.put 3 (by omega) (bits .xor .u64 IntKind.u64.max S.d); rw [notTo_put S 3 (by omega) (bits .xor .u64 IntKind.u64.max S.d) (xor_not hwok.d)] at h1; exact h1), HOt.out.far (b := b1) (by omega) rfl rfl rfl (by simp) (fun k hk => Below.heap_setCell _ _ _ _ hk)⟩
            · obtain ⟨SX, hSX⟩ : ∃ SX, SX = S.notTo 4 := ⟨_, rfl⟩
              have Hbr3 := Lib.hid (show bracketP r = .ok (SX, r2) by rw [Hbr2.out, hSX, notTo_all]; rfl)
              have HSt := Lib.hid (show SetAt wr b1 SX by rw [hSX]; exact HSt.out)
              clear hSX Hbr2 hwok
              clear f0 f1 f2 f3 z0 z1 z2 z3
              obtain ⟨f0, f1, f2, f3⟩ := HSt.out.at4
              obtain ⟨g0, g1, g2, g3⟩ := HR0t.out.at4
              have y0 := HR0t.out.froz 0; have y1 := HR0t.out.froz 1; have y2 := HR0t.out.froz 2; have y3 := HR0t.out.froz 3
              simp only [Nat.zero_add] at f1 f2 f3 g1 g2 g3
              go_wp2_with fail
              change bodyPost _ _ _ _ _ (setV _ w.heap.size SX)
              obtain ⟨q0, q1, q2, q3⟩ := (HR0t.out.setV SX).at4
              simp only [Nat.zero_add] at q1 q2 q3
              have hRS : RS (setV _ w.heap.size SX) p op _ := (((HRt.out.put hp 0 (.int .u64 SX.a)).put hp 1 (.int .u64 SX.b)).put hp 2 (.int .u64 SX.c)).put hp 3 (.int .u64 SX.d)
              have hOff := Off.setV HOt.out (b := w.heap.size) (Nat.le_refl _) SX
              clear f0 f1 f2 f3 g0 g1 g2 g3 y0 y1 y2 y3
              generalize setV _ w.heap.size SX = W at *
              exact bodyPost_ret (v := SX.V) (by simp [results, Tryz.results129, go_sem, q0, q1, q2, q3]) rfl ⟨SX, _, rfl, hRS, hOff, Out.good Hbr3.out rfl⟩
end Go.Proofs.YthlakbjnmbddaaaGreatDoor

/- What is printed is read as the same tree. Plain. -/
set_option linter.unusedVariables false
set_option linter.unusedSimpArgs false
namespace Go.Proofs.YthlakbjnmbddaaaGreatDoor
open Go.RowKit

/-! Enough rounds are as good as more. -/
theorem sufP_fuel : ∀ (k k' : Nat) (n : T) (r : Bs), r.length < k → r.length < k' → sufP k n r = sufP k' n r
  | 0, _, _, _, h, _ => by omega
  | _, 0, _, _, _, h => by omega
  | k + 1, k' + 1, n, r, h, h' => by
    rw [sufP, sufP]
    split
    · rename_i r1 ht; have := takeP_len ht; simp at this; exact sufP_fuel k k' _ _ (by omega) (by omega)
    split
    · rename_i r1 ht; have := takeP_len ht; simp at this; exact sufP_fuel k k' _ _ (by omega) (by omega)
    split
    · rename_i r1 ht; have := takeP_len ht; simp at this; exact sufP_fuel k k' _ _ (by omega) (by omega)
    split
    · rename_i r1 ht
      have := takeP_len ht; simp at this
      split
      · rfl
      · rename_i m x r2 hi
        have := interval_len hi
        exact sufP_fuel k k' _ _ (by omega) (by omega)
    · rfl
/-! How often. -/
def noDig (r : Bs) : Prop := ∀ c t, r = c :: t → isDigit c = false
theorem dig_byte {n : Nat} (h : n < 10) : isDigit (UInt8.ofNat (48 + n)) = true ∧ ((UInt8.ofNat (48 + n)).toNat : Int) - 48 = n := by
  have e : (UInt8.ofNat (48 + n)).toNat = 48 + n := b8 (by omega)
  unfold isDigit
  rw [e]
  simp; omega
theorem digits_stop (k : Nat) (n : Int) (w : Nat) {r : Bs} (h : noDig r) : digitsP k n w r = (n, w, r) := by
  cases k with
  | zero => rfl
  | succ k =>
    cases r with
    | nil => rfl
    | cons c t => rw [digitsP, h c t rfl]; simp
theorem dec_digits {n : Nat} (hn : n < 256) {r : Bs} (hr : noDig r) : ∃ w, 1 ≤ w ∧ w ≤ 3 ∧ digitsP 4 0 0 (decT n ++ r) = ((n : Int), w, r) := by
  unfold decT
  split
  · rename_i h
    obtain ⟨h1, h2⟩ := dig_byte h
    refine ⟨1, by omega, by omega, ?_⟩
    simp only [List.cons_append, List.nil_append]
    rw [digitsP, if_pos h1, h2, digits_stop _ _ _ hr]
    simp
  split
  · rename_i h0 h
    obtain ⟨h1, h2⟩ := dig_byte (n := n / 10) (by omega)
    obtain ⟨h3, h4⟩ := dig_byte (n := n % 10) (by omega)
    refine ⟨2, by omega, by omega, ?_⟩
    simp only [List.cons_append, List.nil_append]
    rw [digitsP, if_pos h1, h2, digitsP, if_pos h3, h4, digits_stop _ _ _ hr]
    simp only [Prod.mk.injEq, and_true]
    omega
  · rename_i h0 h
    obtain ⟨h1, h2⟩ := dig_byte (n := n / 100) (by omega)
    obtain ⟨h3, h4⟩ := dig_byte (n := n / 10 % 10) (by omega)
    obtain ⟨h5, h6⟩ := dig_byte (n := n % 10) (by omega)
    refine ⟨3, by omega, by omega, ?_⟩
    simp only [List.cons_append, List.nil_append]
    rw [digitsP, if_pos h1, h2, digitsP, if_pos h3, h4, digitsP, if_pos h5, h6, digits_stop _ _ _ hr]
    simp only [Prod.mk.injEq, and_true]
    omega
theorem dec_number {n : Nat} (hn : n < 256) {r : Bs} (hr : noDig r) : numberP (decT n ++ r) = .ok ((n : Int), r) := by
  obtain ⟨w, h1, h2, e⟩ := dec_digits hn hr
  unfold numberP
  rw [e, if_neg (by simp only; omega)]
theorem noDig_cons {c : UInt8} (h : isDigit c = false) (t : Bs) : noDig (c :: t) := fun _ _ e => by cases e; exact h
/-- A number's text begins with none of these. -/
theorem decT_head {n : Nat} (hn : n < 256) : ∃ c t, decT n = c :: t ∧ c ≠ 125 ∧ c ≠ 44 := by
  have hd : ∀ k, k < 10 → UInt8.ofNat (48 + k) ≠ 125 ∧ UInt8.ofNat (48 + k) ≠ 44 := fun k hk => ⟨fun e => by
    have := (b8_eq (c := 48 + k) (k := 125) (by omega) (by omega)).1 e; omega, fun e => by
    have := (b8_eq (c := 48 + k) (k := 44) (by omega) (by omega)).1 e; omega⟩
  unfold decT
  split
  · exact ⟨_, _, rfl, hd _ (by omega)⟩
  split
  · exact ⟨_, _, rfl, hd _ (by omega)⟩
  · exact ⟨_, _, rfl, hd _ (by omega)⟩
structure Tim (m n : Int) : Prop where
  m0 : 0 ≤ m
  m1 : m ≤ 255
  n1 : n ≤ 255
  n0 : n = -1 ∨ m ≤ n
theorem timesT_suf {m n : Int} (h : Tim m n) (k : Nat) (t : T) (r : Bs) : sufP (k + 1) t (timesT m n ++ r) = sufP k (repT m n t) r := by
  have h0 := h.m0; have h1 := h.m1; have h2 := h.n1; have h3 := h.n0
  unfold timesT
  split
  · rename_i e
    obtain ⟨rfl, rfl⟩ := e
    simp only [List.cons_append, List.nil_append]
    rw [sufP, takeP_one, if_pos rfl]
  split
  · rename_i e
    obtain ⟨rfl, rfl⟩ := e
    simp only [List.cons_append, List.nil_append]
    rw [sufP, takeP_one, if_neg (by decide)]
    simp only [takeP_one, if_true]
  split
  · rename_i e
    obtain ⟨rfl, rfl⟩ := e
    simp only [List.cons_append, List.nil_append]
    rw [sufP, takeP_one, if_neg (by decide)]
    simp only [takeP_one, show ¬ ((43 : UInt8) = 63) by decide, if_true, if_false]
  obtain ⟨a, rfl⟩ : ∃ a : Nat, m = a := ⟨m.toNat, by omega⟩
  rw [Int.toNat_natCast]
  split
  · rename_i e
    subst e
    simp only [List.cons_append, List.nil_append, List.append_assoc]
    have hi : intervalP (decT a ++ 125 :: r) = .ok ((a : Int), (a : Int), r) := by
      rw [intervalP, dec_number (by omega) (noDig_cons (by decide) _)]
      simp only [takeP_one, if_true]
    rw [sufP, takeP_one, if_neg (by decide)]
    simp only [takeP_one, show ¬ ((43 : UInt8) = 123) by decide, show ¬ ((63 : UInt8) = 123) by decide, if_true, if_false, hi]
  split
  · rename_i e
    subst e
    simp only [List.cons_append, List.nil_append, List.append_assoc]
    have hi : intervalP (decT a ++ 44 :: 125 :: r) = .ok ((a : Int), -1, r) := by
      rw [intervalP, dec_number (by omega) (noDig_cons (by decide) _)]
      simp only [takeP_cons, takeP_done, show ¬ ((125 : UInt8) = 44) by decide, if_true, if_false]
    rw [sufP, takeP_one, if_neg (by decide)]
    simp only [takeP_one, show ¬ ((43 : UInt8) = 123) by decide, show ¬ ((63 : UInt8) = 123) by decide, if_true, if_false, hi]
  · obtain ⟨b, rfl⟩ : ∃ b : Nat, n = b := ⟨n.toNat, by omega⟩
    rw [Int.toNat_natCast]
    simp only [List.cons_append, List.nil_append, List.append_assoc]
    obtain ⟨c, t', hc, h5, h6⟩ := decT_head (n := b) (by omega)
    have hi : intervalP (decT a ++ 44 :: (decT b ++ 125 :: r)) = .ok ((a : Int), (b : Int), r) := by
      rw [intervalP, dec_number (by omega) (noDig_cons (by decide) _)]
      have e1 : takeP [44, 125] (44 :: (decT b ++ 125 :: r)) = none := by rw [takeP_cons, if_pos rfl, hc, List.cons_append, takeP_one, if_neg (fun e => h5 e.symm)]
      simp only [takeP_one, show ¬ ((125 : UInt8) = 44) by decide, if_true, if_false, e1]
      rw [dec_number (by omega) (noDig_cons (by decide) _)]
      simp only [takeP_one, if_true]
      rw [if_neg (by omega)]
    rw [sufP, takeP_one, if_neg (by decide)]
    simp only [takeP_one, show ¬ ((43 : UInt8) = 123) by decide, show ¬ ((63 : UInt8) = 123) by decide, if_true, if_false, hi]
theorem timesT_len (m n : Int) : 1 ≤ (timesT m n).length := by
  unfold timesT
  repeat' split
  all_goals simp
/-- Nothing stands here that says how often. -/
def noSuf (r : Bs) : Prop := ∀ c t, r = c :: t → c ≠ 42 ∧ c ≠ 43 ∧ c ≠ 63 ∧ c ≠ 123
theorem suf_stop (k : Nat) (t : T) {r : Bs} (h : noSuf r) : sufP k t r = .ok (t, r) := by
  cases k with
  | zero => rfl
  | succ k =>
    cases r with
    | nil => rfl
    | cons c q =>
      obtain ⟨h1, h2, h3, h4⟩ := h c q rfl
      rw [sufP, takeP_one, if_neg (fun e => h1 e.symm)]
      simp only [takeP_one]
      rw [if_neg (fun e => h2 e.symm)]
      simp only
      rw [if_neg (fun e => h3 e.symm)]
      simp only
      rw [if_neg (fun e => h4 e.symm)]
theorem ends_suf {r : Bs} (h : endsRow r = true) : noSuf r := fun c t e => by
  subst e
  simp only [endsRow, Bool.or_eq_true, beq_iff_eq] at h
  rcases h with rfl | rfl <;> decide
/-- A piece's first byte. -/
def Begins (x : Bs) : Prop := ∃ c t, x = c :: t ∧ c ≠ 124 ∧ c ≠ 41 ∧ c ≠ 42 ∧ c ≠ 43 ∧ c ≠ 63 ∧ c ≠ 123
theorem Begins.row {x : Bs} (h : Begins x) (r : Bs) : endsRow (x ++ r) = false := by
  obtain ⟨c, t, rfl, h1, h2, _⟩ := h
  simp [endsRow, h1, h2]
theorem Begins.suf {x : Bs} (h : Begins x) (r : Bs) : noSuf (x ++ r) := by
  obtain ⟨c, t, rfl, h1, h2, h3, h4, h5, h6⟩ := h
  intro a b e
  cases e
  exact ⟨h3, h4, h5, h6⟩
theorem Begins.app {x : Bs} (h : Begins x) (r : Bs) : Begins (x ++ r) := by
  obtain ⟨c, t, rfl, h⟩ := h
  exact ⟨c, t ++ r, rfl, h⟩
theorem set_begins (s : W4) : Begins (setT s) := by
  unfold setT
  split
  · exact ⟨46, _, rfl, by decide⟩
  split
  · exact ⟨91, _, rfl, by decide⟩
  split
  · rename_i h1
    obtain ⟨c, hc⟩ := List.length_eq_one_iff.1 h1
    have hcl : c < 256 := bytesW_lt s c (by rw [hc]; simp)
    have hh : (bytesW s).headD 0 = c := by rw [hc]; rfl
    rw [hh]
    by_cases hs : specB c = true
    · rw [if_pos hs]; exact ⟨92, _, rfl, by decide⟩
    · rw [if_neg hs]
      have hs : ¬ c ∈ [92, 94, 46, 91, 36, 40, 41, 124, 42, 43, 63, 123] := by simpa [specB] using hs
      simp only [List.mem_cons, List.not_mem_nil, or_false, not_or] at hs
      have ne : ∀ k, k < 256 → c ≠ k → UInt8.ofNat c ≠ UInt8.ofNat k := fun k hk hn e => hn ((b8_eq hcl hk).1 e)
      exact ⟨_, _, rfl, ne 124 (by omega) (by omega), ne 41 (by omega) (by omega), ne 42 (by omega) (by omega), ne 43 (by omega) (by omega), ne 63 (by omega) (by omega), ne 123 (by omega) (by omega)⟩
  · exact ⟨91, _, rfl, by decide⟩

/-- What right trees are, all told. -/
theorem right_set {t : T} (h : rightF t = true) (hk : t.k ≠ 1) : t.s0 = 0 ∧ t.s1 = 0 ∧ t.s2 = 0 ∧ t.s3 = 0 := by
  rw [rightF_eq] at h
  split at h
  · cases h
  · rename_i hn
    false_or_by_contra
    rename_i h2
    exact hn (.inl ⟨hk, h2⟩)
theorem T.eq_mk {t : T} {k s0 s1 s2 s3 mn mx : Int} {ps : List T} (h1 : t.k = k) (h2 : t.s0 = s0) (h3 : t.s1 = s1) (h4 : t.s2 = s2) (h5 : t.s3 = s3) (h6 : t.mn = mn) (h7 : t.mx = mx) (h8 : t.ps = ps) : t = .mk k s0 s1 s2 s3 mn mx ps := by
  subst h1; subst h2; subst h3; subst h4; subst h5; subst h6; subst h7; subst h8; exact t.eta

/-- A row's end: nothing, a stroke, a bracket. -/
structure Rnd (t : T) : Prop where
  piece : looseT t = false → (∀ d r, deepT t ≤ d → pieceP (groupP d) (prT t ++ r) = sufP (r.length + 1) t r) ∧ Begins (prT t)
  choice : ∀ d r, deepT t ≤ d → (r = [] ∨ ∃ q, r = 41 :: q) → choiceP (groupP d) (prT t ++ r) = .ok (t, r)
theorem atom40 (grp : Bs → PT) (t : Bs) : atomP grp (40 :: t) = grp t := by simp [atomP]
theorem atom94 (grp : Bs → PT) (t : Bs) : atomP grp (94 :: t) = .ok (.mk 2 0 0 0 0 0 0 [], t) := by simp [atomP]
theorem atom36 (grp : Bs → PT) (t : Bs) : atomP grp (36 :: t) = .ok (.mk 3 0 0 0 0 0 0 [], t) := by simp [atomP]
/-- A part, in brackets if it is loose. -/
theorem part_piece {p : T} (h : Rnd p) (so : Bool) (hso : looseT p = true → so = true) (d : Nat) (hd : deepT p + (if so then 1 else 0) ≤ d) (r : Bs) :
    pieceP (groupP d) (parT so (prT p) ++ r) = sufP (r.length + 1) p r ∧ Begins (parT so (prT p)) := by
  cases hs : so with
  | false =>
    have hl : looseT p = false := by
      cases hl : looseT p with
      | false => rfl
      | true => rw [hso hl] at hs; cases hs
    rw [hs] at hd
    obtain ⟨h1, h2⟩ := h.piece hl
    exact ⟨h1 d r (by simpa using hd), h2⟩
  | true =>
    rw [hs] at hd
    obtain ⟨d, rfl⟩ : ∃ d', d = d' + 1 := ⟨d - 1, by simp at hd; omega⟩
    refine ⟨?_, 40, _, rfl, by decide⟩
    simp only [parT, if_true, List.cons_append, List.nil_append, List.append_assoc]
    have hg : groupP (d + 1) (prT p ++ 41 :: r) = .ok (p, r) := by
      rw [groupP, h.choice d (41 :: r) (by simp at hd; omega) (.inr ⟨r, rfl⟩)]
      simp only [takeP_one, if_true]
    rw [pieceP, atom40, hg]
theorem row_read {d : Nat} : ∀ (ps : List T) (l : List T) (r : Bs) (k : Nat), (∀ p ∈ ps, Rnd p) → deepRow ps ≤ d → endsRow r = true → (prRow ps ++ r).length < k → piecesP (groupP d) k l (prRow ps ++ r) = .ok (l ++ ps, r) ∧ noSuf (prRow ps ++ r)
  | [], l, r, k, _, _, hr, hk => by
    rw [prRow]
    simp only [List.nil_append, List.append_nil] at hk ⊢
    refine ⟨?_, ends_suf hr⟩
    cases k with
    | zero => omega
    | succ k => rw [piecesP, if_pos hr]
  | p :: ps, l, r, k, h, hd, hr, hk => by
    rw [prRow] at hk ⊢
    rw [deepRow] at hd
    rw [List.append_assoc] at hk ⊢
    obtain ⟨h1, h2⟩ := part_piece (h p (List.mem_cons_self ..)) (looseT p) id d (by omega) (prRow ps ++ r)
    obtain ⟨c, t, e, _⟩ := id h2
    have hlen : 1 ≤ (parT (looseT p) (prT p)).length := by rw [e]; simp
    obtain ⟨k, rfl⟩ : ∃ k', k = k' + 1 := ⟨k - 1, by omega⟩
    simp only [List.length_append] at hk
    obtain ⟨h3, h4⟩ := row_read (d := d) ps (l ++ [p]) r k (fun q hq => h q (List.mem_cons_of_mem _ hq)) (by omega) hr (by simp only [List.length_append]; omega)
    refine ⟨?_, h2.suf _⟩
    rw [piecesP, h2.row, h1, suf_stop _ _ h4]
    simp only [Bool.false_eq_true, if_false]
    rw [h3]
    simp
theorem joinT_many (k : Int) : ∀ (l : List T), 2 ≤ l.length → joinT k l = .mk k 0 0 0 0 0 0 l
  | [], h => by simp at h
  | [_], h => by simp at h
  | _ :: _ :: _, _ => rfl
/-- A row: what is no choice. -/
theorem rowP_read {t : T} (hr : rightF t = true) (h : ∀ p ∈ t.ps, Rnd p) (hp : looseT t = false → (∀ d r, deepT t ≤ d → pieceP (groupP d) (prT t ++ r) = sufP (r.length + 1) t r) ∧ Begins (prT t)) (hk : t.k ≠ 5) (d : Nat) (hd : deepT t ≤ d) (r : Bs) (he : endsRow r = true) : rowP (groupP d) (prT t ++ r) = .ok (t, r) := by
  unfold rowP
  cases hl : looseT t with
  | false =>
    obtain ⟨h1, h2⟩ := hp hl
    rw [piecesP, h2.row, h1 d r hd, suf_stop _ _ (ends_suf he)]
    simp only [Bool.false_eq_true, if_false]
    obtain ⟨c, q, e, _⟩ := id h2
    rw [e, List.cons_append, List.length_cons, piecesP, if_pos he]
    rfl
  | true =>
    have hset := right_set hr
    rcases right_cases hr with ⟨hk', hh⟩ | ⟨hk', hh⟩ | ⟨hk', hh⟩ | ⟨hk', hh⟩ | ⟨hk', hh⟩ | ⟨hk', hh⟩ | ⟨hk', hh⟩
    · have hpr : prT t = [] := by rw [prT_eq]; simp [hk']
      rw [hpr, List.nil_append, piecesP, if_pos he]
      simp only
      obtain ⟨e1, e2, e3, e4⟩ := hset (by omega)
      rw [T.eq_mk hk' e1 e2 e3 e4 hh.2.1 hh.2.2 (List.eq_nil_of_length_eq_zero hh.1)]
      rfl
    · simp [looseT, hk'] at hl
    · simp [looseT, hk'] at hl
    · simp [looseT, hk'] at hl
    · have hpr : prT t = prRow t.ps := by rw [prT_eq]; simp [hk']
      have hdp : deepT t = deepRow t.ps := by rw [deepT_eq]; simp [hk']
      obtain ⟨h1, _⟩ := row_read (d := d) t.ps [] r ((prT t ++ r).length + 1) h (by omega) he (by rw [hpr]; omega)
      rw [hpr] at h1 ⊢
      rw [h1]
      simp only [List.nil_append]
      obtain ⟨e1, e2, e3, e4⟩ := hset (by omega)
      rw [joinT_many _ _ hh.1, ← T.eq_mk hk' e1 e2 e3 e4 hh.2.1 hh.2.2 rfl]
    · exact absurd hk' hk
    · simp [looseT, hk'] at hl
theorem part_row {p : T} (hrt : rightF p = true) (h : Rnd p) (hps : ∀ q ∈ p.ps, Rnd q) (d : Nat) (hd : deepT p + (if p.k == 5 then 1 else 0) ≤ d) (r : Bs) (he : endsRow r = true) : rowP (groupP d) (parT (p.k == 5) (prT p) ++ r) = .ok (p, r) := by
  by_cases hk : p.k = 5
  · have hb : (p.k == 5) = true := by simpa using hk
    rw [hb] at hd ⊢
    obtain ⟨h1, h2⟩ := part_piece h true (fun _ => rfl) d hd r
    unfold rowP
    rw [piecesP, h2.row, h1, suf_stop _ _ (ends_suf he)]
    simp only [Bool.false_eq_true, if_false]
    obtain ⟨c, q, e, _⟩ := id h2
    rw [e, List.cons_append, List.length_cons, piecesP, if_pos he]
    rfl
  · have hb : (p.k == 5) = false := by simpa using hk
    rw [hb] at hd ⊢
    exact rowP_read hrt hps h.piece hk d (by simpa using hd) r he
theorem ends_closes {r : Bs} (hr : r = [] ∨ ∃ q, r = 41 :: q) : endsRow r = true ∧ takeP [124] r = none := by
  rcases hr with rfl | ⟨q, rfl⟩
  · exact ⟨rfl, rfl⟩
  · exact ⟨rfl, by rw [takeP_one, if_neg (by decide)]⟩
theorem bar_read {d : Nat} : ∀ (ps : List T) (l : List T) (r : Bs) (k : Nat), (∀ p ∈ ps, rightF p = true ∧ Rnd p ∧ ∀ q ∈ p.ps, Rnd q) → deepAlt ps ≤ d → (r = [] ∨ ∃ q, r = 41 :: q) → (prBar ps ++ r).length < k → altsP (groupP d) k l (prBar ps ++ r) = .ok (l ++ ps, r) ∧ endsRow (prBar ps ++ r) = true
  | [], l, r, k, _, _, hr, hk => by
    rw [prBar]
    simp only [List.nil_append, List.append_nil] at hk ⊢
    obtain ⟨h1, h2⟩ := ends_closes hr
    refine ⟨?_, h1⟩
    cases k with
    | zero => omega
    | succ k => rw [altsP, h2]
  | p :: ps, l, r, k, h, hd, hr, hk => by
    rw [prBar] at hk ⊢
    rw [deepAlt] at hd
    simp only [List.cons_append, List.nil_append, List.append_assoc, List.length_cons] at hk ⊢
    obtain ⟨k, rfl⟩ : ∃ k', k = k' + 1 := ⟨k - 1, by omega⟩
    simp only [List.length_append] at hk
    obtain ⟨h3, h4⟩ := bar_read (d := d) ps (l ++ [p]) r k (fun q hq => h q (List.mem_cons_of_mem _ hq)) (by omega) hr (by simp only [List.length_append]; omega)
    obtain ⟨g1, g2, g3⟩ := h p (List.mem_cons_self ..)
    have := part_row g1 g2 g3 d (by omega) (prBar ps ++ r) h4
    refine ⟨?_, rfl⟩
    rw [altsP, takeP_one, if_pos rfl]
    simp only
    rw [this]
    simp only
    rw [h3]
    simp
theorem rnd_all (t : T) : rightF t = true → Words t → Rnd t ∧ ∀ p ∈ t.ps, Rnd p := by
  induction t using T.ind with
  | h t ih =>
    intro hr hw
    have hps : ∀ p ∈ t.ps, Rnd p := fun p hp => (ih p hp (right_parts hr p hp) (hw.p p hp)).1
    have hps2 : ∀ p ∈ t.ps, ∀ q ∈ p.ps, Rnd q := fun p hp => (ih p hp (right_parts hr p hp) (hw.p p hp)).2
    have hset := right_set hr
    have hpiece : looseT t = false → (∀ d r, deepT t ≤ d → pieceP (groupP d) (prT t ++ r) = sufP (r.length + 1) t r) ∧ Begins (prT t) := by
      intro hl
      rcases right_cases hr with ⟨hk, hh⟩ | ⟨hk, hh⟩ | ⟨hk, hh⟩ | ⟨hk, hh⟩ | ⟨hk, hh⟩ | ⟨hk, hh⟩ | ⟨hk, hh⟩
      · simp [looseT, hk] at hl
      · have hpr : prT t = setT t.w4 := by rw [prT_eq]; simp [hk]
        rw [hpr]
        refine ⟨fun d r _ => ?_, set_begins _⟩
        have e : t.w4.T = t := (T.eq_mk hk rfl rfl rfl rfl hh.2.1 hh.2.2 (List.eq_nil_of_length_eq_zero hh.1)).symm
        rw [pieceP, set_atom hw.w, e]
      · have hpr : prT t = [94] := by rw [prT_eq]; simp [hk]
        rw [hpr]
        refine ⟨fun d r _ => ?_, 94, _, rfl, by decide⟩
        obtain ⟨e1, e2, e3, e4⟩ := hset (by omega)
        rw [List.cons_append, List.nil_append, pieceP, atom94, ← T.eq_mk hk e1 e2 e3 e4 hh.2.1 hh.2.2 (List.eq_nil_of_length_eq_zero hh.1)]
      · have hpr : prT t = [36] := by rw [prT_eq]; simp [hk]
        rw [hpr]
        refine ⟨fun d r _ => ?_, 36, _, rfl, by decide⟩
        obtain ⟨e1, e2, e3, e4⟩ := hset (by omega)
        rw [List.cons_append, List.nil_append, pieceP, atom36, ← T.eq_mk hk e1 e2 e3 e4 hh.2.1 hh.2.2 (List.eq_nil_of_length_eq_zero hh.1)]
      · simp [looseT, hk] at hl
      · simp [looseT, hk] at hl
      · have hpr : prT t = prHead t.ps ++ timesT t.mn t.mx := by rw [prT_eq]; simp [hk]
        have hdp : deepT t = deepHead t.ps := by rw [deepT_eq]; simp [hk]
        obtain ⟨p, hp⟩ := List.length_eq_one_iff.1 hh.1
        have hP := hps p (by rw [hp]; simp)
        obtain ⟨e1, e2, e3, e4⟩ := hset (by omega)
        rw [hp] at hdp
        rw [deepHead] at hdp
        rw [hpr, hp, prHead]
        refine ⟨fun d r hd => ?_, ?_⟩
        · rw [List.append_assoc]
          obtain ⟨h1, _⟩ := part_piece hP (looseT p) id d (by omega) (timesT t.mn t.mx ++ r)
          rw [h1, timesT_suf ⟨hh.2.1, hh.2.2.1, hh.2.2.2.1, hh.2.2.2.2⟩]
          have : repT t.mn t.mx p = t := (T.eq_mk hk e1 e2 e3 e4 rfl rfl hp).symm
          rw [this]
          have := timesT_len t.mn t.mx
          exact sufP_fuel _ _ _ _ (by simp only [List.length_append]; omega) (by omega)
        · exact (part_piece hP (looseT p) id _ (Nat.le_refl _) []).2.app _
    refine ⟨⟨hpiece, fun d r hd hc => ?_⟩, hps⟩
    obtain ⟨c1, c2⟩ := ends_closes hc
    by_cases hk : t.k = 5
    · have hpr : prT t = prAlt t.ps := by rw [prT_eq]; simp [hk]
      have hdp : deepT t = deepAlt t.ps := by rw [deepT_eq]; simp [hk]
      have hh : 2 ≤ t.ps.length ∧ t.mn = 0 ∧ t.mx = 0 := by
        rcases right_cases hr with ⟨hk', hh⟩ | ⟨hk', hh⟩ | ⟨hk', hh⟩ | ⟨hk', hh⟩ | ⟨hk', hh⟩ | ⟨hk', hh⟩ | ⟨hk', hh⟩
        all_goals first | omega | exact hh
      obtain ⟨e1, e2, e3, e4⟩ := hset (by omega)
      have hall : ∀ p ∈ t.ps, rightF p = true ∧ Rnd p ∧ ∀ q ∈ p.ps, Rnd q := fun p hp => ⟨right_parts hr p hp, hps p hp, hps2 p hp⟩
      cases hq : t.ps with
      | nil => rw [hq] at hh; simp at hh
      | cons p ps =>
        rw [hq] at hpr hdp hall hh
        rw [prAlt] at hpr
        rw [deepAlt] at hdp
        obtain ⟨b1, b2⟩ := bar_read (d := d) ps [p] r ((prBar ps ++ r).length + 1) (fun q hq => hall q (List.mem_cons_of_mem _ hq)) (by omega) hc (by omega)
        obtain ⟨g1, g2, g3⟩ := hall p (List.mem_cons_self ..)
        rw [choiceP, hpr, List.append_assoc, part_row g1 g2 g3 d (by omega) (prBar ps ++ r) b2]
        simp only
        rw [b1]
        simp only [List.cons_append, List.nil_append]
        rw [joinT_many _ _ hh.1, ← T.eq_mk hk e1 e2 e3 e4 hh.2.1 hh.2.2 hq]
    · rw [choiceP, rowP_read hr hps hpiece hk d hd r c1]
      simp only
      rw [altsP, c2]
      rfl
theorem rnd {t : T} (hr : rightF t = true) (hw : Words t) : Rnd t := (rnd_all t hr hw).1
/-- What is printed is read as the same tree. -/
theorem parse_print {t : T} (hr : rightF t = true) (hw : Words t) (hl : (prT t).length ≤ 1024) (hd : deepT t ≤ 64) : parseP (prT t) = .ok t := by
  have := (rnd hr hw).choice 64 [] hd (.inl rfl)
  rw [List.append_nil] at this
  rw [parseP, if_neg (by omega), this]
end Go.Proofs.YthlakbjnmbddaaaGreatDoor

/- What is read is read alike ahead of a closing bracket, and with fewer brackets left (or there are too many). Plain. -/
set_option linter.unusedVariables false
set_option linter.unusedSimpArgs false
namespace Go.Proofs.YthlakbjnmbddaaaGreatDoor
open Go.RowKit

theorem takeP_app : ∀ {q r r' : Bs} (u : Bs), takeP q r = some r' → takeP q (r ++ u) = some (r' ++ u)
  | [], r, r', u, h => by rw [takeP_done] at h ⊢; cases h; rfl
  | a :: q, [], r', u, h => by rw [takeP_nil _ (by simp)] at h; cases h
  | a :: q, c :: r, r', u, h => by
    rw [takeP_cons] at h
    rw [List.cons_append, takeP_cons]
    split at h
    · rw [if_pos (by assumption)]; exact takeP_app u h
    · cases h
theorem takeP_not : ∀ {q r : Bs} (u : Bs), ¬ (41 : UInt8) ∈ q → takeP q r = none → takeP q (r ++ 41 :: u) = none
  | [], r, u, _, h => by rw [takeP_done] at h; cases h
  | a :: q, [], u, hq, h => by
    rw [List.nil_append, takeP_cons, if_neg (fun e => hq (by rw [e]; exact List.mem_cons_self ..))]
  | a :: q, c :: r, u, hq, h => by
    rw [takeP_cons] at h
    rw [List.cons_append, takeP_cons]
    split at h
    · rw [if_pos (by assumption)]; exact takeP_not u (fun e => hq (List.mem_cons_of_mem _ e)) h
    · rw [if_neg (by assumption)]
theorem digits_app (u : Bs) : ∀ (k : Nat) (n : Int) (w : Nat) (r : Bs), digitsP k n w (r ++ 41 :: u) = ((digitsP k n w r).1, (digitsP k n w r).2.1, (digitsP k n w r).2.2 ++ 41 :: u)
  | 0, n, w, r => rfl
  | k + 1, n, w, [] => by
    have : isDigit 41 = false := by decide
    simp only [List.nil_append, digitsP, this, Bool.false_eq_true, if_false]
  | k + 1, n, w, c :: t => by
    rw [List.cons_append, digitsP, digitsP]
    split
    · exact digits_app u k _ _ t
    · rfl
theorem number_app {r r' : Bs} {n : Int} (u : Bs) (h : numberP r = .ok (n, r')) : numberP (r ++ 41 :: u) = .ok (n, r' ++ 41 :: u) := by
  unfold numberP at h ⊢
  rw [digits_app]
  split at h
  · cases h
  · rename_i hn
    rw [if_neg hn]; cases h; rfl
theorem interval_app {r r' : Bs} {m n : Int} (u : Bs) (h : intervalP r = .ok (m, n, r')) : intervalP (r ++ 41 :: u) = .ok (m, n, r' ++ 41 :: u) := by
  unfold intervalP at h ⊢
  split at h
  · cases h
  rename_i m1 r1 hn
  rw [number_app u hn]
  simp only
  split at h
  · rename_i r2 ht; cases h; rw [takeP_app _ ht]
  rename_i ht
  rw [takeP_not u (by decide) ht]
  simp only
  split at h
  · rename_i r2 ht; cases h; rw [takeP_app _ ht]
  rename_i ht
  rw [takeP_not u (by decide) ht]
  simp only
  split at h
  · cases h
  rename_i r2 ht
  rw [takeP_app _ ht]
  simp only
  split at h
  · cases h
  rename_i n1 r3 hn2
  rw [number_app u hn2]
  simp only
  split at h
  · cases h
  rename_i hlt
  rw [if_neg hlt]
  split at h
  · rename_i r4 ht4; cases h; rw [takeP_app _ ht4]
  · cases h
theorem single_app {g : UInt8} {r r' : Bs} {c : Nat} (u : Bs) (h : singleP g r = .ok (c, r')) : singleP g (r ++ 41 :: u) = .ok (c, r' ++ 41 :: u) := by
  unfold singleP at h
  split at h
  · cases h
  split at h
  · rename_i c1 t r1 ht; cases h; rw [List.cons_append, singleP, takeP_app _ ht]
  · cases h
theorem member_app {r r' : Bs} {c : Nat} (u : Bs) (h : memberP r = .ok (c, r')) : memberP (r ++ 41 :: u) = .ok (c, r' ++ 41 :: u) := by
  unfold memberP at h
  split at h
  · rename_i r1 ht; rw [memberP.eq_def, takeP_app _ ht]; exact single_app u h
  · rename_i ht
    split at h
    · cases h
    · cases h
      rw [memberP.eq_def, takeP_not u (by decide) ht]; rfl
theorem cutP_app : ∀ {r a b : Bs} (u : Bs), cutP r = some (a, b) → cutP (r ++ 41 :: u) = some (a, b ++ 41 :: u)
  | [], a, b, u, h => by cases h
  | c :: t, a, b, u, h => by
    rw [cutP] at h
    rw [List.cons_append, cutP]
    split at h
    · rename_i r1 ht
      cases h
      rw [show c :: (t ++ 41 :: u) = (c :: t) ++ 41 :: u from rfl, takeP_app _ ht]
    · rename_i ht
      rw [show c :: (t ++ 41 :: u) = (c :: t) ++ 41 :: u from rfl, takeP_not u (by decide) ht]
      simp only
      split at h
      · rename_i a1 b1 hc
        cases h
        rw [cutP_app u hc]
      · cases h
theorem class_app {s s' : W4} {r r' : Bs} (u : Bs) (h : classP s r = .ok (s', r')) : classP s (r ++ 41 :: u) = .ok (s', r' ++ 41 :: u) := by
  unfold classP at h ⊢
  split at h
  · cases h
  rename_i name r1 hc
  rw [cutP_app u hc]
  simp only
  split at h
  · cases h
  · rename_i x hx; cases h; rfl
theorem range_app {s s' : W4} {f : Nat} {r r' : Bs} (u : Bs) (h : rangeP s f r = .ok (s', r')) : rangeP s f (r ++ 41 :: u) = .ok (s', r' ++ 41 :: u) := by
  unfold rangeP at h ⊢
  split at h
  · rename_i r1 h1 h2
    rw [takeP_app _ h1, takeP_not u (by decide) h2]
    simp only
    split at h
    · cases h
    rename_i hb
    have hb : takeP [91, 58] r1 = none ∧ takeP [91, 61] r1 = none := by simpa using hb
    rw [takeP_not u (by decide) hb.1, takeP_not u (by decide) hb.2]
    simp only [Option.isSome_none, Bool.or_false, Bool.false_eq_true, if_false]
    split at h
    · cases h
    rename_i to_ r2 hm
    rw [member_app u hm]
    simp only
    split at h
    · cases h
    · rename_i hlt; rw [if_neg hlt]; cases h; rfl
  · rename_i hne
    cases h
    cases h1 : takeP [45] r with
    | none => rw [takeP_not u (by decide) h1]
    | some r1 =>
      cases h2 : takeP [45, 93] r with
      | none => exact (hne r1 h1 h2).elim
      | some r2 => rw [takeP_app _ h1, takeP_app _ h2]
theorem item_app {s s' : W4} {r r' : Bs} (u : Bs) (h : itemP s r = .ok (s', r')) : itemP s (r ++ 41 :: u) = .ok (s', r' ++ 41 :: u) := by
  unfold itemP at h ⊢
  split at h
  · rename_i r1 ht; rw [takeP_app _ ht]; exact class_app u h
  rename_i ht
  rw [takeP_not u (by decide) ht]
  simp only
  split at h
  · rename_i r1 ht
    rw [takeP_app _ ht]
    simp only
    split at h
    · cases h
    · rename_i c r2 hs; rw [single_app u hs]; cases h; rfl
  rename_i ht
  rw [takeP_not u (by decide) ht]
  simp only
  split at h
  · cases h
  · rename_i c r1 hm; rw [member_app u hm]; exact range_app u h
theorem items_app (u : Bs) : ∀ {k k' : Nat} {s s' : W4} {r r' : Bs}, k ≤ k' → itemsP k s r = .ok (s', r') → itemsP k' s (r ++ 41 :: u) = .ok (s', r' ++ 41 :: u)
  | 0, _, _, _, _, _, _, h => by rw [itemsP] at h; cases h
  | k + 1, 0, _, _, _, _, hk, _ => by omega
  | k + 1, k' + 1, s, s', r, r', hk, h => by
    rw [itemsP] at h ⊢
    split at h
    · cases h
    rename_i s1 r1 hi
    rw [item_app u hi]
    simp only
    split at h
    · rename_i r2 ht; rw [takeP_app _ ht]; cases h; rfl
    · rename_i ht; rw [takeP_not u (by decide) ht]; exact items_app u (by omega) h
theorem bracket_app {s' : W4} {r r' : Bs} (u : Bs) (h : bracketP r = .ok (s', r')) : bracketP (r ++ 41 :: u) = .ok (s', r' ++ 41 :: u) := by
  unfold bracketP at h ⊢
  split at h
  · rename_i r1 ht
    rw [takeP_app _ ht]
    simp only
    split at h
    · cases h
    · rename_i s1 r2 hi; rw [items_app u (by simp) hi]; cases h; rfl
  · rename_i ht; rw [takeP_not u (by decide) ht]; exact items_app u (by simp) h
def GrpApp (grp : Bs → PT) : Prop := ∀ r n r' u, grp r = .ok (n, r') → grp (r ++ 41 :: u) = .ok (n, r' ++ 41 :: u)
theorem atom_app {grp : Bs → PT} (hg : GrpApp grp) {r r' : Bs} {n : T} (u : Bs) (h : atomP grp r = .ok (n, r')) : atomP grp (r ++ 41 :: u) = .ok (n, r' ++ 41 :: u) := by
  cases r with
  | nil => rw [atomP] at h; cases h
  | cons c t =>
    simp only [atomP] at h
    simp only [List.cons_append, atomP]
    split at h
    · rw [if_pos (by assumption)]; exact hg _ _ _ _ h
    rw [if_neg (by assumption)]
    split at h
    · rw [if_pos (by assumption)]; cases h; rfl
    rw [if_neg (by assumption)]
    split at h
    · rw [if_pos (by assumption)]; cases h; rfl
    rw [if_neg (by assumption)]
    split at h
    · rw [if_pos (by assumption)]
      split at h
      · cases h
      · rename_i s r1 hb; rw [bracket_app u hb]; cases h; rfl
    rw [if_neg (by assumption)]
    split at h
    · rw [if_pos (by assumption)]; cases h; rfl
    rw [if_neg (by assumption)]
    split at h
    · cases h
    rw [if_neg (by assumption)]
    split at h
    · rw [if_pos (by assumption)]
      split at h
      · cases h
      · cases h; rfl
    · rw [if_neg (by assumption)]; cases h; rfl
theorem suf_app (u : Bs) : ∀ {k k' : Nat} {n n' : T} {r r' : Bs}, r.length < k → (r ++ 41 :: u).length < k' → sufP k n r = .ok (n', r') → sufP k' n (r ++ 41 :: u) = .ok (n', r' ++ 41 :: u)
  | 0, _, _, _, _, _, h, _, _ => by omega
  | _, 0, _, _, _, _, _, h, _ => by omega
  | k + 1, k' + 1, n, n', r, r', hk, hk', h => by
    rw [sufP] at h ⊢
    simp only [List.length_append, List.length_cons] at hk'
    split at h
    · rename_i r1 ht
      rw [takeP_app _ ht]
      have := takeP_len ht; simp at this
      exact suf_app u (by omega) (by simp only [List.length_append, List.length_cons]; omega) h
    rename_i ht
    rw [takeP_not u (by decide) ht]
    simp only
    split at h
    · rename_i r1 ht
      rw [takeP_app _ ht]
      have := takeP_len ht; simp at this
      exact suf_app u (by omega) (by simp only [List.length_append, List.length_cons]; omega) h
    rename_i ht
    rw [takeP_not u (by decide) ht]
    simp only
    split at h
    · rename_i r1 ht
      rw [takeP_app _ ht]
      have := takeP_len ht; simp at this
      exact suf_app u (by omega) (by simp only [List.length_append, List.length_cons]; omega) h
    rename_i ht
    rw [takeP_not u (by decide) ht]
    simp only
    split at h
    · rename_i r1 ht
      rw [takeP_app _ ht]
      have := takeP_len ht; simp at this
      simp only
      split at h
      · cases h
      · rename_i m x r2 hi
        have := interval_len hi
        rw [interval_app u hi]
        exact suf_app u (by omega) (by simp only [List.length_append, List.length_cons]; omega) h
    · rename_i ht
      rw [takeP_not u (by decide) ht]
      cases h; rfl
theorem piece_app {grp : Bs → PT} (hg : GrpApp grp) {r r' : Bs} {n : T} (u : Bs) (h : pieceP grp r = .ok (n, r')) : pieceP grp (r ++ 41 :: u) = .ok (n, r' ++ 41 :: u) := by
  unfold pieceP at h ⊢
  split at h
  · cases h
  · rename_i n1 r1 ha
    rw [atom_app hg u ha]
    exact suf_app u (Nat.lt_succ_self _) (Nat.lt_succ_self _) h
theorem ends_app (r u : Bs) : endsRow (r ++ 41 :: u) = endsRow r := by cases r <;> rfl
theorem pieces_app {grp : Bs → PT} (hl : GrpLen grp) (hg : GrpApp grp) (u : Bs) : ∀ {k k' : Nat} {l l' : List T} {r r' : Bs}, r.length < k → (r ++ 41 :: u).length < k' → piecesP grp k l r = .ok (l', r') → piecesP grp k' l (r ++ 41 :: u) = .ok (l', r' ++ 41 :: u)
  | 0, _, _, _, _, _, h, _, _ => by omega
  | _, 0, _, _, _, _, _, h, _ => by omega
  | k + 1, k' + 1, l, l', r, r', hk, hk', h => by
    rw [piecesP] at h ⊢
    rw [ends_app]
    simp only [List.length_append, List.length_cons] at hk'
    split at h
    · rw [if_pos (by assumption)]; cases h; rfl
    rw [if_neg (by assumption)]
    split at h
    · cases h
    · rename_i n r1 hp
      rw [piece_app hg u hp]
      have := piece_len hl hp
      exact pieces_app hl hg u (by omega) (by simp only [List.length_append, List.length_cons]; omega) h
theorem row_app {grp : Bs → PT} (hl : GrpLen grp) (hg : GrpApp grp) {r r' : Bs} {n : T} (u : Bs) (h : rowP grp r = .ok (n, r')) : rowP grp (r ++ 41 :: u) = .ok (n, r' ++ 41 :: u) := by
  unfold rowP at h ⊢
  split at h
  · cases h
  · rename_i l r1 hp
    rw [pieces_app hl hg u (Nat.lt_succ_self _) (Nat.lt_succ_self _) hp]
    cases h; rfl
theorem alts_app {grp : Bs → PT} (hl : GrpLen grp) (hg : GrpApp grp) (u : Bs) : ∀ {k k' : Nat} {l l' : List T} {r r' : Bs}, r.length < k → (r ++ 41 :: u).length < k' → altsP grp k l r = .ok (l', r') → altsP grp k' l (r ++ 41 :: u) = .ok (l', r' ++ 41 :: u)
  | 0, _, _, _, _, _, h, _, _ => by omega
  | _, 0, _, _, _, _, _, h, _ => by omega
  | k + 1, k' + 1, l, l', r, r', hk, hk', h => by
    rw [altsP] at h ⊢
    simp only [List.length_append, List.length_cons] at hk'
    split at h
    · rename_i ht; rw [takeP_not u (by decide) ht]; cases h; rfl
    rename_i r1 ht
    rw [takeP_app _ ht]
    have := takeP_len ht; simp at this
    simp only
    split at h
    · cases h
    · rename_i n r2 hp
      rw [row_app hl hg u hp]
      have := row_len hl hp
      exact alts_app hl hg u (by omega) (by simp only [List.length_append, List.length_cons]; omega) h
theorem choice_app {grp : Bs → PT} (hl : GrpLen grp) (hg : GrpApp grp) {r r' : Bs} {n : T} (u : Bs) (h : choiceP grp r = .ok (n, r')) : choiceP grp (r ++ 41 :: u) = .ok (n, r' ++ 41 :: u) := by
  unfold choiceP at h ⊢
  split at h
  · cases h
  rename_i n1 r1 hr
  rw [row_app hl hg u hr]
  simp only
  split at h
  · cases h
  · rename_i l r2 ha
    rw [alts_app hl hg u (Nat.lt_succ_self _) (Nat.lt_succ_self _) ha]
    cases h; rfl
theorem group_app : ∀ d, GrpApp (groupP d)
  | 0, r, n, r', u, h => by rw [groupP] at h; cases h
  | d + 1, r, n, r', u, h => by
    rw [groupP] at h ⊢
    split at h
    · cases h
    rename_i n1 r1 hc
    rw [choice_app (group_len d) (group_app d) u hc]
    simp only
    split at h
    · rename_i r2 ht; rw [takeP_app _ ht]; cases h; rfl
    · cases h

/-! Fewer brackets left. -/
def Shal {α : Type} (f g : Bs → Except Int α) : Prop := ∀ r v, f r = .ok v → g r = .ok v ∨ g r = .error 3
theorem atom_shal {f g : Bs → PT} (h : Shal f g) : Shal (atomP f) (atomP g) := fun r v hv => by
  cases r with
  | nil => rw [atomP] at hv; cases hv
  | cons c t =>
    by_cases hc : c = 40
    · subst hc; rw [atom40] at hv ⊢; exact h t v hv
    · left
      simp only [atomP, if_neg hc] at hv ⊢
      exact hv
theorem piece_shal {f g : Bs → PT} (h : Shal f g) : Shal (pieceP f) (pieceP g) := fun r v hv => by
  unfold pieceP at hv ⊢
  split at hv
  · cases hv
  rename_i n r1 ha
  rcases atom_shal h r _ ha with e | e
  · rw [e]; exact .inl hv
  · rw [e]; exact .inr rfl
theorem pieces_shal {f g : Bs → PT} (h : Shal f g) : ∀ (k : Nat) (l : List T), Shal (piecesP f k l) (piecesP g k l)
  | 0, l => fun r v hv => .inl hv
  | k + 1, l => fun r v hv => by
    rw [piecesP] at hv ⊢
    split at hv
    · rw [if_pos (by assumption)]; exact .inl hv
    rw [if_neg (by assumption)]
    split at hv
    · cases hv
    rename_i n r1 hp
    rcases piece_shal h r _ hp with e | e
    · rw [e]; exact pieces_shal h k _ r1 v hv
    · rw [e]; exact .inr rfl
theorem row_shal {f g : Bs → PT} (h : Shal f g) : Shal (rowP f) (rowP g) := fun r v hv => by
  unfold rowP at hv ⊢
  split at hv
  · cases hv
  rename_i l r1 hp
  rcases pieces_shal h _ _ r _ hp with e | e
  · rw [e]; exact .inl hv
  · rw [e]; exact .inr rfl
theorem alts_shal {f g : Bs → PT} (h : Shal f g) : ∀ (k : Nat) (l : List T), Shal (altsP f k l) (altsP g k l)
  | 0, l => fun r v hv => .inl hv
  | k + 1, l => fun r v hv => by
    rw [altsP] at hv ⊢
    split at hv
    · exact .inl hv
    rename_i r1 ht
    split at hv
    · cases hv
    rename_i n r2 hp
    rcases row_shal h r1 _ hp with e | e
    · rw [e]; exact alts_shal h k _ r2 v hv
    · rw [e]; exact .inr rfl
theorem choice_shal {f g : Bs → PT} (h : Shal f g) : Shal (choiceP f) (choiceP g) := fun r v hv => by
  unfold choiceP at hv ⊢
  split at hv
  · cases hv
  rename_i n r1 hr
  rcases row_shal h r _ hr with e | e
  · rw [e]
    simp only
    split at hv
    · cases hv
    rename_i l r2 ha
    rcases alts_shal h _ _ r1 _ ha with e | e
    · rw [e]; exact .inl hv
    · rw [e]; exact .inr rfl
  · rw [e]; exact .inr rfl
theorem group_shal : ∀ {d d' : Nat}, d' ≤ d → Shal (groupP d) (groupP d')
  | d, 0, _ => fun r v _ => .inr rfl
  | 0, d' + 1, h => by omega
  | d + 1, d' + 1, h => fun r v hv => by
    rw [groupP] at hv ⊢
    split at hv
    · cases hv
    rename_i n r1 hc
    rcases choice_shal (group_shal (d := d) (d' := d') (by omega)) r _ hc with e | e
    · rw [e]; exact .inl hv
    · rw [e]; exact .inr rfl

theorem parse_ok {a : Bs} {x : T} (h : parseP a = .ok x) : a.length ≤ 1024 ∧ choiceP (groupP 64) a = .ok (x, []) := by
  unfold parseP at h
  split at h
  · cases h
  rename_i hl
  split at h
  · cases h
  · rename_i n hc; cases h; exact ⟨by omega, hc⟩
  · cases h
/-- A pattern in brackets, as a piece ahead of what is no sign of how often. -/
theorem grp_atom {a : Bs} {x : T} (h : parseP a = .ok x) (u : Bs) : atomP (groupP 64) (40 :: (a ++ 41 :: u)) = .ok (x, u) ∨ atomP (groupP 64) (40 :: (a ++ 41 :: u)) = .error 3 := by
  have h1 := choice_app (group_len 64) (group_app 64) u (parse_ok h).2
  rw [atom40, groupP]
  rcases choice_shal (group_shal (d := 64) (d' := 63) (by omega)) _ _ h1 with e | e
  · rw [e]; left; simp only [List.nil_append, takeP_one, if_true]
  · rw [e]; exact .inr rfl
theorem grp_piece {a : Bs} {x : T} (h : parseP a = .ok x) (u : Bs) : pieceP (groupP 64) (40 :: (a ++ 41 :: u)) = sufP (u.length + 1) x u ∨ pieceP (groupP 64) (40 :: (a ++ 41 :: u)) = .error 3 := by
  unfold pieceP
  rcases grp_atom h u with e | e
  · rw [e]; exact .inl rfl
  · rw [e]; exact .inr rfl
theorem ends40 (t : Bs) : endsRow (40 :: t) = false := rfl
/-- One piece alone. -/
theorem one_row {grp : Bs → PT} {r q : Bs} {n : T} (hr : endsRow r = false) (hp : pieceP grp r = .ok (n, q)) (hq : endsRow q = true) (hl : q.length < r.length) : rowP grp r = .ok (n, q) := by
  obtain ⟨m, hm⟩ : ∃ m, r.length = m + 1 := ⟨r.length - 1, by omega⟩
  rw [rowP, hm, piecesP, hr, hp]
  simp only [Bool.false_eq_true, if_false]
  rw [piecesP, if_pos hq]
  rfl
theorem row_err {grp : Bs → PT} {r : Bs} {e : Int} (hr : endsRow r = false) (hp : pieceP grp r = .error e) : rowP grp r = .error e := by
  rw [rowP, piecesP, hr, hp]
  simp only [Bool.false_eq_true, if_false]
theorem choice_one {grp : Bs → PT} {r q : Bs} {n : T} (hr : rowP grp r = .ok (n, q)) (hq : takeP [124] q = none) : choiceP grp r = .ok (n, q) := by
  rw [choiceP, hr]
  simp only
  rw [altsP, hq]
  rfl
/-- (a), with how often it stands. -/
theorem parse_times {a : Bs} {x : T} {m n : Int} {q : Bs} (h : parseP a = .ok x) (hl : a.length + q.length + 2 ≤ 1024) (hs : ∀ k t, sufP (k + q.length + 1) t q = .ok (repT m n t, [])) : parseP (40 :: (a ++ 41 :: q)) = .ok (repT m n x) ∨ parseP (40 :: (a ++ 41 :: q)) = .error 3 := by
  have hlen : (40 :: (a ++ 41 :: q)).length ≤ 1024 := by simp; omega
  unfold parseP
  rw [if_neg (by omega)]
  rcases grp_piece h q with e | e
  · have hs0 := hs 0 x
    rw [Nat.zero_add] at hs0
    rw [hs0] at e
    rw [choice_one (one_row (ends40 _) e rfl (by simp)) rfl]
    exact .inl rfl
  · rw [choiceP, row_err (ends40 _) e]
    exact .inr rfl
theorem suf_27 (k : Nat) (t : T) : sufP (k + 5 + 1) t [123, 50, 44, 55, 125] = .ok (repT 2 7 t, []) := by
  have := timesT_suf (m := 2) (n := 7) ⟨by decide, by decide, by decide, .inr (by decide)⟩ (k + 5) t []
  rw [show timesT 2 7 ++ [] = [123, 50, 44, 55, 125] by decide] at this
  rw [this]; rfl
/-- (a)(b). -/
theorem parse_row {a b : Bs} {x y : T} (ha : parseP a = .ok x) (hb : parseP b = .ok y) (hl : a.length + b.length + 4 ≤ 1024) :
    parseP (40 :: (a ++ 41 :: (40 :: (b ++ [41])))) = .ok (.mk 4 0 0 0 0 0 0 [x, y]) ∨ parseP (40 :: (a ++ 41 :: (40 :: (b ++ [41])))) = .error 3 := by
  unfold parseP
  rw [if_neg (by simp; omega)]
  generalize hr : 40 :: (a ++ 41 :: (40 :: (b ++ [41]))) = r
  have hrl : r.length = a.length + b.length + 4 := by subst hr; simp; omega
  have he : endsRow r = false := by subst hr; rfl
  rcases grp_piece ha (40 :: (b ++ [41])) with e | e
  · rw [suf_stop _ _ (fun c t e => by cases e; decide), hr] at e
    rcases grp_piece hb [] with e2 | e2
    · rw [suf_stop _ _ (fun c t e => by cases e)] at e2
      have hrow : rowP (groupP 64) r = .ok (.mk 4 0 0 0 0 0 0 [x, y], []) := by
        rw [rowP, hrl, show a.length + b.length + 4 + 1 = a.length + b.length + 2 + 1 + 1 + 1 by omega, piecesP, he, e]
        simp only [Bool.false_eq_true, if_false]
        rw [piecesP, ends40, e2]
        simp only [Bool.false_eq_true, if_false]
        rw [piecesP, if_pos (show endsRow [] = true from rfl)]
        rfl
      rw [choice_one hrow rfl]
      exact .inl rfl
    · have hrow : rowP (groupP 64) r = .error 3 := by
        rw [rowP, hrl, show a.length + b.length + 4 + 1 = a.length + b.length + 3 + 1 + 1 by omega, piecesP, he, e]
        simp only [Bool.false_eq_true, if_false]
        rw [piecesP, ends40, e2]
        simp only [Bool.false_eq_true, if_false]
      rw [choiceP, hrow]
      exact .inr rfl
  · rw [hr] at e
    rw [choiceP, row_err he e]
    exact .inr rfl
/-- (a)|(b). -/
theorem parse_alt {a b : Bs} {x y : T} (ha : parseP a = .ok x) (hb : parseP b = .ok y) (hl : a.length + b.length + 5 ≤ 1024) :
    parseP (40 :: (a ++ 41 :: (124 :: 40 :: (b ++ [41])))) = .ok (.mk 5 0 0 0 0 0 0 [x, y]) ∨ parseP (40 :: (a ++ 41 :: (124 :: 40 :: (b ++ [41])))) = .error 3 := by
  unfold parseP
  rw [if_neg (by simp; omega)]
  generalize hr : 40 :: (a ++ 41 :: (124 :: 40 :: (b ++ [41]))) = r
  have hrl : r.length = a.length + b.length + 5 := by subst hr; simp; omega
  have he : endsRow r = false := by subst hr; rfl
  rcases grp_piece ha (124 :: 40 :: (b ++ [41])) with e | e
  · rw [suf_stop _ _ (fun c t e => by cases e; decide), hr] at e
    have h1 := one_row he e rfl (by rw [hrl]; simp; omega)
    rcases grp_piece hb [] with e2 | e2
    · rw [suf_stop _ _ (fun c t e => by cases e)] at e2
      have h2 := one_row (ends40 _) e2 rfl (by simp)
      have hc : choiceP (groupP 64) r = .ok (.mk 5 0 0 0 0 0 0 [x, y], []) := by
        rw [choiceP, h1]
        simp only
        rw [List.length_cons, altsP, takeP_one, if_pos rfl]
        simp only
        rw [h2]
        simp only
        rw [List.length_cons, altsP, takeP_nil _ (by simp)]
        rfl
      rw [hc]
      exact .inl rfl
    · have hc : choiceP (groupP 64) r = .error 3 := by
        rw [choiceP, h1]
        simp only
        rw [List.length_cons, altsP, takeP_one, if_pos rfl]
        simp only
        rw [row_err (ends40 _) e2]
      rw [hc]
      exact .inr rfl
  · rw [hr] at e
    rw [choiceP, row_err he e]
    exact .inr rfl
end Go.Proofs.YthlakbjnmbddaaaGreatDoor

/- What reads well is a tree that may be, plain. -/
set_option linter.unusedVariables false
set_option linter.unusedSimpArgs false
namespace Go.Proofs.YthlakbjnmbddaaaGreatDoor
open Go.RowKit

/-- A tree that may be, at most so many nodes. -/
def Fine (n : T) (m : Int) : Prop := rightF n = true ∧ Words n ∧ nodesF n ≤ m
def FineG (f : Bs → PT) : Prop := ∀ r n r1, f r = .ok (n, r1) → r1.length < r.length ∧ Fine n (2 * ((r.length : Int) - r1.length) - 1)
theorem Fine.mono {n : T} {m m' : Int} (h : Fine n m) (k : m ≤ m') : Fine n m' := ⟨h.1, h.2.1, Int.le_trans h.2.2 k⟩
theorem items_fine : ∀ (k : Nat) {s s' : W4} {r r' : Bs}, Wok s → itemsP k s r = .ok (s', r') → Wok s' ∧ r'.length < r.length
  | 0, _, _, _, _, _, h => by simp [itemsP] at h
  | k + 1, s, s', r, r', hs, h => by
    rw [itemsP] at h
    cases hi : itemP s r with
    | error e => rw [hi] at h; simp at h
    | ok v =>
      obtain ⟨s1, r1⟩ := v
      rw [hi] at h
      have h1 := item_ok hs hi
      have h2 := item_lt hi
      simp only at h
      cases ht : takeP [93] r1 with
      | some r2 =>
        rw [ht] at h
        simp only [Except.ok.injEq, Prod.mk.injEq] at h
        obtain ⟨rfl, rfl⟩ := h
        have := takeP_len ht
        exact ⟨h1, by omega⟩
      | none =>
        rw [ht] at h
        have := items_fine k h1 h
        exact ⟨this.1, by omega⟩
theorem bracket_fine {s : W4} {r r' : Bs} (h : bracketP r = .ok (s, r')) : Wok s ∧ r'.length < r.length := by
  unfold bracketP at h
  cases ht : takeP [94] r with
  | none => rw [ht] at h; exact items_fine _ wok0 h
  | some r1 =>
    rw [ht] at h
    have := takeP_len ht
    simp only at h
    cases hi : itemsP (r1.length + 1) w40 r1 with
    | error e => rw [hi] at h; simp at h
    | ok v =>
      obtain ⟨s1, r2⟩ := v
      rw [hi] at h
      simp only [Except.ok.injEq, Prod.mk.injEq] at h
      obtain ⟨rfl, rfl⟩ := h
      have := items_fine _ wok0 hi
      exact ⟨not_ok this.1, by omega⟩
theorem fine_leaf (k : Int) (hk : k = 0 ∨ k = 2 ∨ k = 3) : Fine (.mk k 0 0 0 0 0 0 []) 1 := by
  refine ⟨?_, .mk _ wok0 (fun p hp => by cases hp), by rw [nodesF, nodesL]; omega⟩
  rcases hk with rfl | rfl | rfl <;> decide
theorem fine_set {s : W4} (h : Wok s) : Fine s.T 1 := by
  refine ⟨?_, .mk _ h (fun p hp => by cases hp), by unfold W4.T; rw [nodesF, nodesL]; omega⟩
  unfold W4.T
  rw [rightF]
  simp
theorem atom_fine {grp : Bs → PT} (hg : FineG grp) : FineG (atomP grp) := fun r n r1 h => by
  unfold atomP at h
  cases r with
  | nil => simp at h
  | cons c t =>
    simp only at h
    split at h
    · have := hg _ _ _ h
      exact ⟨by simp; omega, this.2.mono (by simp; omega)⟩
    split at h
    · simp only [Except.ok.injEq, Prod.mk.injEq] at h
      obtain ⟨rfl, rfl⟩ := h
      exact ⟨by simp, (fine_leaf 2 (by simp)).mono (by simp; omega)⟩
    split at h
    · simp only [Except.ok.injEq, Prod.mk.injEq] at h
      obtain ⟨rfl, rfl⟩ := h
      exact ⟨by simp, (fine_leaf 3 (by simp)).mono (by simp; omega)⟩
    split at h
    · cases hb : bracketP t with
      | error e => rw [hb] at h; simp at h
      | ok v =>
        obtain ⟨s, r2⟩ := v
        rw [hb] at h
        simp only [Except.ok.injEq, Prod.mk.injEq] at h
        obtain ⟨rfl, rfl⟩ := h
        have := bracket_fine hb
        exact ⟨by simp; omega, (fine_set this.1).mono (by simp; omega)⟩
    split at h
    · simp only [Except.ok.injEq, Prod.mk.injEq] at h
      obtain ⟨rfl, rfl⟩ := h
      exact ⟨by simp, (fine_set (span_spec wok0 0 256 (by omega)).1).mono (by simp; omega)⟩
    split at h
    · simp at h
    split at h
    · cases t with
      | nil => simp at h
      | cons x t' =>
        simp only [Except.ok.injEq, Prod.mk.injEq] at h
        obtain ⟨rfl, rfl⟩ := h
        exact ⟨by simp; omega, (fine_set (add_ok wok0 _ x.toNat_lt)).mono (by simp; omega)⟩
    · simp only [Except.ok.injEq, Prod.mk.injEq] at h
      obtain ⟨rfl, rfl⟩ := h
      exact ⟨by simp, (fine_set (add_ok wok0 _ c.toNat_lt)).mono (by simp; omega)⟩
theorem fine_rep {m n : Int} {x : T} {k : Int} (hx : Fine x k) (h0 : 0 ≤ m) (h1 : max m n ≤ 255) (h2 : n = -1 ∨ m ≤ n) : Fine (repT m n x) (k + 1) := by
  obtain ⟨a, b, c⟩ := hx
  refine ⟨?_, .mk _ wok0 (fun p hp => by rw [show (repT m n x).ps = [x] from rfl, List.mem_singleton] at hp; subst hp; exact b), by unfold repT; rw [nodesF, nodesL, nodesL]; omega⟩
  unfold repT
  rw [rightF, rightL, rightL, a]
  simp
  omega
theorem number_fine {r r' : Bs} {n : Int} (h : numberP r = .ok (n, r')) : 0 ≤ n ∧ n ≤ 255 := by
  unfold numberP at h
  have := digits_bd 4 0 0 r (by omega) (by omega) (by unfold lim10; omega)
  split at h
  · simp at h
  · rename_i hn
    simp only [Except.ok.injEq, Prod.mk.injEq] at h
    obtain ⟨rfl, rfl⟩ := h
    exact ⟨this.1, by omega⟩
theorem interval_fine {r r' : Bs} {m n : Int} (h : intervalP r = .ok (m, n, r')) : 0 ≤ m ∧ max m n ≤ 255 ∧ (n = -1 ∨ m ≤ n) := by
  unfold intervalP at h
  cases hn : numberP r with
  | error e => rw [hn] at h; simp at h
  | ok v =>
    obtain ⟨a, r1⟩ := v
    rw [hn] at h
    have ha := number_fine hn
    simp only at h
    cases h1 : takeP [125] r1 with
    | some r2 =>
      rw [h1] at h
      simp only [Except.ok.injEq, Prod.mk.injEq] at h
      obtain ⟨rfl, rfl, rfl⟩ := h
      omega
    | none =>
      rw [h1] at h
      simp only at h
      cases h2 : takeP [44, 125] r1 with
      | some r2 =>
        rw [h2] at h
        simp only [Except.ok.injEq, Prod.mk.injEq] at h
        obtain ⟨rfl, rfl, rfl⟩ := h
        omega
      | none =>
        rw [h2] at h
        simp only at h
        cases h3 : takeP [44] r1 with
        | none => rw [h3] at h; simp at h
        | some r2 =>
          rw [h3] at h
          simp only at h
          cases h4 : numberP r2 with
          | error e => rw [h4] at h; simp at h
          | ok v =>
            obtain ⟨b, r3⟩ := v
            rw [h4] at h
            have hb := number_fine h4
            simp only at h
            split at h
            · simp at h
            · cases h5 : takeP [125] r3 with
              | none => rw [h5] at h; simp at h
              | some r4 =>
                rw [h5] at h
                simp only [Except.ok.injEq, Prod.mk.injEq] at h
                obtain ⟨rfl, rfl, rfl⟩ := h
                omega
theorem suf_fine : ∀ (k : Nat) {n n' : T} {r r' : Bs} {m : Int}, Fine n m → sufP k n r = .ok (n', r') → r'.length ≤ r.length ∧ Fine n' (m + 2 * ((r.length : Int) - r'.length))
  | 0, n, n', r, r', m, hn, h => by
    rw [sufP] at h
    simp only [Except.ok.injEq, Prod.mk.injEq] at h
    obtain ⟨rfl, rfl⟩ := h
    exact ⟨Nat.le_refl _, hn.mono (by omega)⟩
  | k + 1, n, n', r, r', m, hn, h => by
    rw [sufP] at h
    have go : ∀ (a b : Int) (r1 : Bs), 0 ≤ a → max a b ≤ 255 → (b = -1 ∨ a ≤ b) → r1.length < r.length → sufP k (repT a b n) r1 = .ok (n', r') → r'.length ≤ r.length ∧ Fine n' (m + 2 * ((r.length : Int) - r'.length)) := fun a b r1 h0 h1 h2 hl hh => by
      have := suf_fine k (fine_rep hn h0 h1 h2) hh
      exact ⟨by omega, this.2.mono (by omega)⟩
    cases h1 : takeP [42] r with
    | some r1 =>
      rw [h1] at h
      have := takeP_len h1
      exact go 0 (-1) r1 (by omega) (by omega) (.inl rfl) (by simp at this; omega) h
    | none =>
      rw [h1] at h
      simp only at h
      cases h2 : takeP [43] r with
      | some r1 =>
        rw [h2] at h
        have := takeP_len h2
        exact go 1 (-1) r1 (by omega) (by omega) (.inl rfl) (by simp at this; omega) h
      | none =>
        rw [h2] at h
        simp only at h
        cases h3 : takeP [63] r with
        | some r1 =>
          rw [h3] at h
          have := takeP_len h3
          exact go 0 1 r1 (by omega) (by omega) (.inr (by omega)) (by simp at this; omega) h
        | none =>
          rw [h3] at h
          simp only at h
          cases h4 : takeP [123] r with
          | none =>
            rw [h4] at h
            simp only [Except.ok.injEq, Prod.mk.injEq] at h
            obtain ⟨rfl, rfl⟩ := h
            exact ⟨Nat.le_refl _, hn.mono (by omega)⟩
          | some r1 =>
            rw [h4] at h
            have := takeP_len h4
            simp only at h
            cases h5 : intervalP r1 with
            | error e => rw [h5] at h; simp at h
            | ok v =>
              obtain ⟨a, b, r2⟩ := v
              rw [h5] at h
              have h6 := interval_fine h5
              have h7 := interval_len h5
              exact go a b r2 h6.1 h6.2.1 h6.2.2 (by simp at this; omega) h
theorem piece_fine {grp : Bs → PT} (hg : FineG grp) : FineG (pieceP grp) := fun r n r1 h => by
  unfold pieceP at h
  cases ha : atomP grp r with
  | error e => rw [ha] at h; simp at h
  | ok v =>
    obtain ⟨n0, r0⟩ := v
    rw [ha] at h
    have h1 := atom_fine hg _ _ _ ha
    have h2 := suf_fine _ h1.2 h
    exact ⟨by omega, h2.2.mono (by omega)⟩
theorem nodesL_app (a b : List T) : nodesL (a ++ b) = nodesL a + nodesL b := by
  induction a with
  | nil => rw [List.nil_append]; rw [show nodesL [] = 0 by rw [nodesL]]; omega
  | cons p a ih => rw [List.cons_append, nodesL, nodesL, ih]; omega
theorem rightL_all : ∀ {l : List T}, (∀ p ∈ l, rightF p = true) → rightL l = true
  | [], _ => by rw [rightL]
  | p :: l, h => by rw [rightL, h p (by simp), rightL_all (fun q hq => h q (by simp [hq]))]; rfl
theorem pieces_fine {grp : Bs → PT} (hg : FineG grp) : ∀ (k : Nat) {l l' : List T} {r r' : Bs}, piecesP grp k l r = .ok (l', r') → r'.length ≤ r.length ∧ ∃ l2, l' = l ++ l2 ∧ (∀ p ∈ l2, rightF p = true ∧ Words p) ∧ nodesL l2 ≤ 2 * ((r.length : Int) - r'.length) - l2.length ∧ l2.length ≤ r.length - r'.length
  | 0, l, l', r, r', h => by
    rw [piecesP] at h
    simp only [Except.ok.injEq, Prod.mk.injEq] at h
    obtain ⟨rfl, rfl⟩ := h
    exact ⟨Nat.le_refl _, [], by simp, by simp, by rw [nodesL]; simp, by simp⟩
  | k + 1, l, l', r, r', h => by
    rw [piecesP] at h
    split at h
    · simp only [Except.ok.injEq, Prod.mk.injEq] at h
      obtain ⟨rfl, rfl⟩ := h
      exact ⟨Nat.le_refl _, [], by simp, by simp, by rw [nodesL]; simp, by simp⟩
    · cases hp : pieceP grp r with
      | error e => rw [hp] at h; simp at h
      | ok v =>
        obtain ⟨n, r1⟩ := v
        rw [hp] at h
        have h1 := piece_fine hg _ _ _ hp
        obtain ⟨h2, l2, rfl, h3, h4, h5⟩ := pieces_fine hg k h
        obtain ⟨g1, g2, g3, g4⟩ := h1
        refine ⟨by omega, n :: l2, by simp, fun p hp => ?_, by rw [nodesL]; simp only [List.length_cons]; omega, by simp only [List.length_cons]; omega⟩
        rcases List.mem_cons.1 hp with rfl | hp
        · exact ⟨g2, g3⟩
        · exact h3 p hp
theorem fine_join {k : Int} (hk : k = 4 ∨ k = 5) {l : List T} (h : ∀ p ∈ l, rightF p = true ∧ Words p) (h2 : 2 ≤ l.length) : Fine (.mk k 0 0 0 0 0 0 l) (1 + nodesL l) := by
  refine ⟨?_, .mk _ wok0 (fun p hp => (h p hp).2), by rw [nodesF]; omega⟩
  rw [rightF, rightL_all (fun p hp => (h p hp).1)]
  rcases hk with rfl | rfl <;> simp <;> omega
theorem row_fine {grp : Bs → PT} (hg : FineG grp) {r r' : Bs} {n : T} (h : rowP grp r = .ok (n, r')) : r'.length ≤ r.length ∧ Fine n (2 * ((r.length : Int) - r'.length) + 1) ∧ (r'.length < r.length → Fine n (2 * ((r.length : Int) - r'.length) - 1)) := by
  unfold rowP at h
  cases hp : piecesP grp (r.length + 1) [] r with
  | error e => rw [hp] at h; simp at h
  | ok v =>
    obtain ⟨l, r1⟩ := v
    rw [hp] at h
    simp only [Except.ok.injEq, Prod.mk.injEq] at h
    obtain ⟨rfl, rfl⟩ := h
    obtain ⟨h1, l2, h2, h3, h4, h5⟩ := pieces_fine hg _ hp
    rw [List.nil_append] at h2
    subst h2
    refine ⟨h1, ?_⟩
    match l, h3, h4, h5 with
    | [], _, _, _ => exact ⟨(fine_leaf 0 (by simp)).mono (by omega), fun hl => (fine_leaf 0 (by simp)).mono (by omega)⟩
    | [n], h3, h4, h5 =>
      rw [nodesL, nodesL] at h4
      simp only [List.length_cons, List.length_nil] at h4 h5
      have hF : Fine n (2 * ((r.length : Int) - r1.length) - 1) := ⟨(h3 n (by simp)).1, (h3 n (by simp)).2, by omega⟩
      exact ⟨hF.mono (by omega), fun _ => hF⟩
    | a :: b :: l, h3, h4, h5 =>
      have hF := fine_join (k := 4) (.inl rfl) h3 (by simp)
      simp only [List.length_cons] at h4 h5
      have hF' : Fine (joinT 4 (a :: b :: l)) (2 * ((r.length : Int) - r1.length) - 1) := hF.mono (by omega)
      exact ⟨hF'.mono (by omega), fun _ => hF'⟩
theorem alts_fine {grp : Bs → PT} (hg : FineG grp) : ∀ (k : Nat) {l l' : List T} {r r' : Bs} (C : Int), (∀ p ∈ l, rightF p = true ∧ Words p) → nodesL l ≤ 2 * C + 2 - l.length → (C = (l.length : Int) - 1 ∨ nodesL l ≤ 2 * C - l.length) → 1 ≤ l.length →
    altsP grp k l r = .ok (l', r') → r'.length ≤ r.length ∧ (∀ p ∈ l', rightF p = true ∧ Words p) ∧ 1 ≤ l'.length ∧ nodesL l' ≤ 2 * (C + ((r.length : Int) - r'.length)) + 2 - l'.length ∧ (C + ((r.length : Int) - r'.length) = (l'.length : Int) - 1 ∨ nodesL l' ≤ 2 * (C + ((r.length : Int) - r'.length)) - l'.length) ∧ (l'.length = l.length → r' = r ∧ l' = l)
  | 0, l, l', r, r', C, hl, h1, h2, h0, h => by
    rw [altsP] at h
    simp only [Except.ok.injEq, Prod.mk.injEq] at h
    obtain ⟨rfl, rfl⟩ := h
    exact ⟨Nat.le_refl _, hl, h0, by omega, by omega, fun _ => ⟨rfl, rfl⟩⟩
  | k + 1, l, l', r, r', C, hl, h1, h2, h0, h => by
    rw [altsP] at h
    cases ht : takeP [124] r with
    | none =>
      rw [ht] at h
      simp only [Except.ok.injEq, Prod.mk.injEq] at h
      obtain ⟨rfl, rfl⟩ := h
      exact ⟨Nat.le_refl _, hl, h0, by omega, by omega, fun _ => ⟨rfl, rfl⟩⟩
    | some r1 =>
      rw [ht] at h
      have hlen := takeP_len ht
      simp only [List.length_cons, List.length_nil] at hlen
      simp only at h
      cases hr : rowP grp r1 with
      | error e => rw [hr] at h; simp at h
      | ok v =>
        obtain ⟨n, r2⟩ := v
        rw [hr] at h
        obtain ⟨g1, g2, g3⟩ := row_fine hg hr
        have hN : nodesL (l ++ [n]) = nodesL l + nodesF n := by rw [nodesL_app, nodesL, nodesL]; omega
        have hlen2 : (l ++ [n]).length = l.length + 1 := by simp
        have hb : nodesF n ≤ 2 * ((r1.length : Int) - r2.length) + 1 := g2.2.2
        have hc : r2.length < r1.length → nodesF n ≤ 2 * ((r1.length : Int) - r2.length) - 1 := fun hh => (g3 hh).2.2
        have hdis : C + 1 + ((r1.length : Int) - r2.length) = ((l ++ [n]).length : Int) - 1 ∨ nodesL (l ++ [n]) ≤ 2 * (C + 1 + ((r1.length : Int) - r2.length)) - (l ++ [n]).length := by
          rw [hN, hlen2]
          by_cases hh : r2.length < r1.length
          · have := hc hh; omega
          · omega
        have := alts_fine hg k (C + 1 + ((r1.length : Int) - r2.length)) (l := l ++ [n]) (fun p hp => by
          rcases List.mem_append.1 hp with hp | hp
          · exact hl p hp
          · rw [List.mem_singleton] at hp; subst hp; exact ⟨g2.1, g2.2.1⟩) (by rw [hN, hlen2]; omega) (hdis) (by omega) h
        obtain ⟨e1, e2, e3, e4, e5, e6⟩ := this
        refine ⟨by omega, e2, e3, by omega, by omega, fun e => ?_⟩
        exfalso
        have : l.length + 1 ≤ l'.length := by
          have hmono : ∀ (k : Nat) (l l' : List T) (r r' : Bs), altsP grp k l r = .ok (l', r') → l.length ≤ l'.length := by
            intro k
            induction k with
            | zero =>
              intro l l' r r' hh
              rw [altsP] at hh
              simp only [Except.ok.injEq, Prod.mk.injEq] at hh
              obtain ⟨rfl, rfl⟩ := hh
              exact Nat.le_refl _
            | succ k ih =>
              intro l l' r r' hh
              rw [altsP] at hh
              split at hh
              · simp only [Except.ok.injEq, Prod.mk.injEq] at hh
                obtain ⟨rfl, rfl⟩ := hh
                exact Nat.le_refl _
              · split at hh
                · simp at hh
                · have := ih _ _ _ _ hh
                  simp at this
                  omega
          have := hmono _ _ _ _ _ h
          omega
        omega
theorem choice_fine {grp : Bs → PT} (hg : FineG grp) {r r' : Bs} {n : T} (h : choiceP grp r = .ok (n, r')) : r'.length ≤ r.length ∧ Fine n (2 * ((r.length : Int) - r'.length) + 1) ∧ (r'.length + 2 ≤ r.length → Fine n (2 * ((r.length : Int) - r'.length))) := by
  unfold choiceP at h
  cases hr : rowP grp r with
  | error e => rw [hr] at h; simp at h
  | ok v =>
    obtain ⟨n0, r1⟩ := v
    rw [hr] at h
    obtain ⟨g1, g2, g3⟩ := row_fine hg hr
    simp only at h
    cases ha : altsP grp (r1.length + 1) [n0] r1 with
    | error e => rw [ha] at h; simp at h
    | ok v =>
      obtain ⟨l, r2⟩ := v
      rw [ha] at h
      simp only [Except.ok.injEq, Prod.mk.injEq] at h
      obtain ⟨rfl, rfl⟩ := h
      have hb : nodesF n0 ≤ 2 * ((r.length : Int) - r1.length) + 1 := g2.2.2
      have hc : r1.length < r.length → nodesF n0 ≤ 2 * ((r.length : Int) - r1.length) - 1 := fun hh => (g3 hh).2.2
      have hN : nodesL [n0] = nodesF n0 := by rw [nodesL, nodesL]; omega
      have hdis : ((r.length : Int) - r1.length) = (([n0] : List T).length : Int) - 1 ∨ nodesL [n0] ≤ 2 * ((r.length : Int) - r1.length) - ([n0] : List T).length := by
        rw [hN]
        simp only [List.length_cons, List.length_nil]
        by_cases hh : r1.length < r.length
        · have := hc hh; omega
        · omega
      obtain ⟨e1, e2, e3, e4, e5, e6⟩ := alts_fine hg _ ((r.length : Int) - r1.length) (l := [n0]) (fun p hp => by rw [List.mem_singleton] at hp; subst hp; exact ⟨g2.1, g2.2.1⟩) (by rw [hN]; simp; omega) (hdis) (by simp) ha
      refine ⟨by omega, ?_⟩
      match l, e2, e3, e4, e5, e6 with
      | [n], e2, e3, e4, e5, e6 =>
        obtain ⟨rfl, q⟩ := e6 rfl
        simp only [List.cons.injEq, and_true] at q
        subst q
        exact ⟨g2, fun hh => (g3 (by omega)).mono (by omega)⟩
      | a :: b :: l, e2, e3, e4, e5, e6 =>
        have hF := fine_join (k := 5) (.inr rfl) e2 (by simp)
        simp only [List.length_cons] at e4 e5
        exact ⟨hF.mono (by omega), fun hh => hF.mono (by omega)⟩
theorem group_fine : ∀ d, FineG (groupP d)
  | 0 => fun r n r1 h => by simp [groupP] at h
  | d + 1 => fun r n r1 h => by
    rw [groupP] at h
    cases hc : choiceP (groupP d) r with
    | error e => rw [hc] at h; simp at h
    | ok v =>
      obtain ⟨n0, r0⟩ := v
      rw [hc] at h
      have h1 := choice_fine (group_fine d) hc
      simp only at h
      cases ht : takeP [41] r0 with
      | none => rw [ht] at h; simp at h
      | some r2 =>
        rw [ht] at h
        have := takeP_len ht
        simp only [List.length_cons, List.length_nil] at this
        simp only [Except.ok.injEq, Prod.mk.injEq] at h
        obtain ⟨rfl, rfl⟩ := h
        exact ⟨by omega, h1.2.1.mono (by omega)⟩
theorem parse_fine {s : Bs} {t : T} (h : parseP s = .ok t) : rightF t = true ∧ Words t ∧ nodesF t ≤ 2048 := by
  obtain ⟨h1, h2⟩ := parse_ok h
  have h3 := choice_fine (group_fine 64) h2
  obtain ⟨a, b, c⟩ := h3.2.1
  refine ⟨a, b, ?_⟩
  simp only [List.length_nil] at c h3
  by_cases hs : 2 ≤ s.length
  · have := (h3.2.2 (by omega)).2.2
    omega
  · omega
end Go.Proofs.YthlakbjnmbddaaaGreatDoor

/- vouchlaw10.works: walked. -/
set_option linter.unusedVariables false
set_option linter.unusedSimpArgs false
namespace Go.Proofs.YthlakbjnmbddaaaGreatDoor
open Go.RowKit

theorem TabIn.mono {B B' : Nat} {w : World} (h : TabIn B w) (k : B ≤ B') : TabIn B' w := ⟨h.1, fun g hg => Nat.lt_of_lt_of_le (h.2 g hg) k⟩
theorem TabIn.step {w w' : World} (h : TabIn w.heap.size w) (hb : Below w.heap.size w w') : TabIn w'.heap.size w' := (h.later hb).mono hb.size
def wt1 : T := .mk 4 0 0 0 0 0 0 [.mk 6 0 0 0 0 0 (-1) [.mk 4 0 0 0 0 0 0 [.mk 1 0 8589934592 0 0 0 0 [], .mk 1 0 17179869184 0 0 0 0 []]], .mk 1 0 60666413056 0 0 0 0 []]
theorem wq1 : parseP [40, 97, 98, 41, 42, 91, 93, 97, 45, 99, 93] = .ok wt1 := by kernel_rfl
theorem wq2 : printP wt1 = ([40, 97, 98, 41, 42, 91, 91, 46, 93, 46, 93, 97, 45, 99, 93], 0) := by kernel_rfl
theorem wq3 : parseP [97, 123, 51, 44, 50, 125] = .error 105 := by kernel_rfl
theorem wq4 : parseP [91, 98, 45, 97, 93] = .error 102 := by kernel_rfl
theorem wq5 : checkF (.mk 4 0 0 0 0 0 0 []) = 107 := by kernel_rfl
theorem parse_is {s : Bs} {w w' : World} {en : Ending} {t : T} (h : GPar s w en w') (hp : parseP s = .ok t) : Below w.heap.size w w' ∧ ∃ A c, en = .returned (.tuple #[nodeV t A c, .int .i64 0]) ∧ NodeAt w' (fun b => w.heap.size ≤ b ∧ b < w'.heap.size) t A c := by
  obtain ⟨hb, ⟨t', A, c, hp', he, hN⟩ | ⟨e, hp', _⟩⟩ := h
  · rw [hp] at hp'; cases hp'; exact ⟨hb, A, c, he, hN⟩
  · rw [hp] at hp'; cases hp'
theorem parse_no {s : Bs} {w w' : World} {en : Ending} {e : Int} (h : GPar s w en w') (hp : parseP s = .error e) : Below w.heap.size w w' ∧ e ≠ 0 ∧ en = .returned (.tuple #[nodeV none0 none 0, .int .i64 e]) := by
  obtain ⟨hb, ⟨t', A, c, hp', he, hN⟩ | ⟨e', hp', h1, h2⟩⟩ := h
  · rw [hp] at hp'; cases hp'
  · rw [hp] at hp'; cases hp'; exact ⟨hb, h1, h2⟩
theorem leaf_at (w : World) (t : T) (h : t.ps = []) {ok : Nat → Prop} : NodeAt w ok t none 0 := .mk t none 0 (fun _ => none) (fun _ => 0) (by rw [h]; exact Nat.le_refl _) (by rw [h]; simp) (fun e => absurd h e) (fun i p hp => by rw [h] at hp; simp at hp)
theorem wt1_at {w : World} {ok : Nat → Prop} {A : Option Addr} {c : Nat} (h : NodeAt w ok wt1 A c) : ∃ b o, A = some ⟨b, o, none⟩ ∧ ok b ∧ w.cell? ⟨b, o, none⟩ = some (.int .i64 6) ∧
    w.cell? ⟨b, o + 9, none⟩ = some (.int .u64 0) ∧ w.cell? ⟨b, o + 10, none⟩ = some (.int .u64 60666413056) ∧ w.cell? ⟨b, o + 11, none⟩ = some (.int .u64 0) ∧ w.cell? ⟨b, o + 12, none⟩ = some (.int .u64 0) := by
  obtain ⟨b, o, rfl, hb, hcell⟩ := h.part (show 0 < 2 by omega)
  obtain ⟨_, _, h0, _⟩ := hcell 0 (show 0 < 2 by omega)
  obtain ⟨_, _, h1, _⟩ := hcell 1 (show 1 < 2 by omega)
  exact ⟨b, o, rfl, hb, h0.f0, h1.f1, h1.f2, h1.f3, h1.f4⟩
set_option maxRecDepth 100000 in
set_option maxHeartbeats 4000000 in
theorem works10_any (w : World) (hM : MaxOk w) (hT : TabIn w.heap.size w) :
    Calls Tryz.prog 24 #[] w fun en w' => en = .returned (.bool true) ∧ Below w.heap.size w w' := by
  have HM := Lib.hid hM; have HT := Lib.hid hT
  clear hM hT
  go_enter Tryz.func24, Tryz.ntmps24
  go_wp2_with fail
  refine (parse_par [40, 97, 98, 41, 42, 91, 93, 97, 45, 99, 93] w HM.out (fun _ => brC) (fun _ => dotC)).mono ?_
  intro en w1 hG
  obtain ⟨hb1, A, c, rfl, hN⟩ := parse_is hG wq1
  have Hfine := Lib.hid (parse_fine wq1)
  have Hp := Lib.hid wq2
  have hk : wt1.k = 4 := rfl
  have hl : wt1.ps.length = 2 := rfl
  obtain ⟨b, o, rfl, hbb, q0, q1, q2, q3, q4⟩ := wt1_at hN
  have HN := Lib.hid hN
  have HM1 := Lib.hid (HM.out.later hb1); have HT1 := Lib.hid (HT.out.step hb1)
  have HB1 := Lib.hid hb1
  have hlt1 : b < w1.heap.size := hbb.2
  have hpr := Lib.hid (print_any wt1)
  have Hk := Lib.hid hk; have Hl := Lib.hid hl
  clear hG hN hb1 hk hl hbb
  generalize wt1 = t at *
  go_upto_region 2 with fail
  generalize hW : w1.alloc _ = W2
  have hb2 : Below w1.heap.size w1 W2 := by subst hW; exact (Below.refl _ _).alloc (Nat.le_refl _) _
  have h8 : At8 W2 w1.heap.size 0 t (some ⟨b, o, none⟩) c := by subst hW; constructor <;> simp [go_sem]
  clear hW
  have hlt2 : w1.heap.size < W2.heap.size := World.block_lt_of_cell? _ _ h8.f0
  have HN2 := Lib.hid (HN.out.later hb2 (fun b h => h.2))
  have HM2 := Lib.hid (HM1.out.later hb2); have HT2 := Lib.hid (HT1.out.step hb2); have HB2 := Lib.hid (HB1.out.step hb2)
  have HQ := Lib.hid (fun o' => hb2.cell (p := ⟨b, o', none⟩) hlt1)
  have H8 := Lib.hid h8
  obtain ⟨f0, f1, f2, f3, f4, f5, f6, f7⟩ := h8
  go_wp2_with fail
  refine (hpr.out W2 _ (some ⟨b, o, none⟩) c HN2.out (fun b h => by have := h.2; omega) (fun _ => Hfine.out.2.1) HT2.out).mono ?_
  rintro e w3 ⟨rfl, hb3⟩
  rw [Hp.out]
  have HM3 := Lib.hid (HM2.out.later hb3); have HB3 := Lib.hid (HB2.out.step hb3)
  have H83 := Lib.hid (H8.out.mono (fun o => hb3.cell (p := ⟨w1.heap.size, o, none⟩) hlt2))
  have hlt3 : w1.heap.size < w3.heap.size := by have := hb3.size; omega
  have HQ3 := Lib.hid (fun o' => (hb3.cell (p := ⟨b, o', none⟩) (by show b < _; omega)).trans (HQ.out o'))
  clear f0 f1 f2 f3 f4 f5 f6 f7 hb3 hb2 HN HN2 H8 HQ
  go_wp2_with fail
  refine (parse_par [97, 123, 51, 44, 50, 125] w3 HM3.out (fun _ => brC) (fun _ => dotC)).mono ?_
  intro en w4 hG
  obtain ⟨hb4, _, rfl⟩ := parse_no hG wq3
  have HM4 := Lib.hid (HM3.out.later hb4); have HB4 := Lib.hid (HB3.out.step hb4)
  have H84 := Lib.hid (H83.out.mono (fun o => hb4.cell (p := ⟨w1.heap.size, o, none⟩) hlt3))
  have HQ4 := Lib.hid (fun o' => (hb4.cell (p := ⟨b, o', none⟩) (by show b < _; omega)).trans (HQ3.out o'))
  have hlt4 : w1.heap.size < w4.heap.size := by have := hb4.size; omega
  clear hG hb4 H83 HQ3
  go_upto_region 4 with fail
  generalize hW : w4.alloc _ = W5
  have hb5 : Below w4.heap.size w4 W5 := by subst hW; exact (Below.refl _ _).alloc (Nat.le_refl _) _
  clear hW
  have HM5 := Lib.hid (HM4.out.later hb5); have HB5 := Lib.hid (HB4.out.step hb5)
  have H85 := Lib.hid (H84.out.mono (fun o => hb5.cell (p := ⟨w1.heap.size, o, none⟩) hlt4))
  have HQ5 := Lib.hid (fun o' => (hb5.cell (p := ⟨b, o', none⟩) (by show b < _; omega)).trans (HQ4.out o'))
  have hlt5 : w1.heap.size < W5.heap.size := by have := hb5.size; omega
  clear hb5 H84 HQ4
  go_wp2_with fail
  refine (parse_par [91, 98, 45, 97, 93] W5 HM5.out (fun _ => brC) (fun _ => dotC)).mono ?_
  intro en w6 hG
  obtain ⟨hb6, _, rfl⟩ := parse_no hG wq4
  have HB6 := Lib.hid (HB5.out.step hb6)
  have H86 := Lib.hid (H85.out.mono (fun o => hb6.cell (p := ⟨w1.heap.size, o, none⟩) hlt5))
  have HQ6 := Lib.hid (fun o' => (hb6.cell (p := ⟨b, o', none⟩) (by show b < _; omega)).trans (HQ5.out o'))
  have hlt6 : w1.heap.size < w6.heap.size := by have := hb6.size; omega
  clear hG hb6 H85 HQ5
  go_upto_region 5 with fail
  generalize hW : w6.alloc _ = W7
  have hb7 : Below w6.heap.size w6 W7 := by subst hW; exact (Below.refl _ _).alloc (Nat.le_refl _) _
  clear hW
  have HB7 := Lib.hid (HB6.out.step hb7)
  obtain ⟨f0, f1, f2, f3, f4, f5, f6, f7⟩ := H86.out.mono (fun o => hb7.cell (p := ⟨w1.heap.size, o, none⟩) hlt6)
  have HQ7 := fun o' => (hb7.cell (p := ⟨b, o', none⟩) (by show b < _; omega)).trans (HQ6.out o')
  have x0 := (HQ7 _).trans q0; have x1 := (HQ7 _).trans q1; have x2 := (HQ7 _).trans q2; have x3 := (HQ7 _).trans q3; have x4 := (HQ7 _).trans q4
  rw [Hk.out] at f0
  rw [Hl.out] at f7
  clear hb7 H86 HQ6 HQ7 q0 q1 q2 q3 q4 Hk Hl Hp Hfine hpr
  have h4 : eq4 0 60666413056 0 0 0 60666413056 0 0 = true := by rw [eq4_iff]; exact ⟨rfl, rfl, rfl, rfl⟩
  go_wp2_with fail
  refine (pcheck_any (.mk 4 0 0 0 0 0 0 []) W7 (fun _ => False) none 0 (leaf_at W7 _ rfl) (fun _ h => h.elim)).mono ?_
  rintro e w8 ⟨rfl, hb8⟩
  rw [wq5]
  have HB8 := Lib.hid (HB7.out.step hb8)
  clear hb8 f0 f1 f2 f3 f4 f5 f6 f7 x0 x1 x2 x3 x4
  go_wp2_with fail
  go_ret
  exact ⟨rfl, HB8.out⟩

/-- What stays true as a law's walk goes on. -/
structure Env (w0 w : World) : Prop where
  mx : MaxOk w
  tb : TabIn w.heap.size w
  bl : Below w0.heap.size w0 w
theorem Env.start {w : World} (h : MaxOk w) (k : TabIn w.heap.size w) : Env w w := ⟨h, k, Below.refl _ _⟩
theorem Env.step {w0 w w' : World} (h : Env w0 w) (k : Below w.heap.size w w') : Env w0 w' := ⟨h.mx.later k, h.tb.step k, h.bl.step k⟩
/-- A tree in a box. -/
structure Box (w : World) (p : Nat) (t : T) (A : Option Addr) (c : Nat) (ok : Nat → Prop) : Prop where
  at8 : At8 w p 0 t A c
  node : NodeAt w ok t A c
  okk : ∀ b, ok b → b < w.heap.size
theorem Box.lt {w : World} {p : Nat} {t : T} {A : Option Addr} {c : Nat} {ok : Nat → Prop} (h : Box w p t A c ok) : p < w.heap.size := World.block_lt_of_cell? _ _ h.at8.f0
theorem Box.step {w w' : World} {p : Nat} {t : T} {A : Option Addr} {c : Nat} {ok : Nat → Prop} (h : Box w p t A c ok) (k : Below w.heap.size w w') : Box w' p t A c ok :=
  ⟨h.at8.mono (fun o => k.cell (p := ⟨p, o, none⟩) h.lt), h.node.later k h.okk, fun b hb => Nat.lt_of_lt_of_le (h.okk b hb) k.size⟩
theorem print_cases {t : T} (hw : Words t) : printP t = ([], 3) ∨ (printP t = ([], 107) ∧ checkF t = 107) ∨ (printP t = (prT t, 0) ∧ parseP (prT t) = .ok t ∧ (prT t).length ≤ 1024) := by
  unfold printP
  by_cases h0 : checkF t = 0
  · rw [if_neg (by omega)]
    by_cases h : (prT t).length ≤ 1024 ∧ deepT t ≤ 64
    · rw [if_pos h]
      exact .inr (.inr ⟨rfl, parse_print (check_right h0).1 hw h.1 h.2, h.1⟩)
    · rw [if_neg h]; exact .inl rfl
  · rw [if_pos h0]
    unfold checkF at h0 ⊢
    split at h0
    · rename_i h; rw [if_pos h]; exact .inl rfl
    · rename_i h
      rw [if_neg h]
      split at h0
      · exact absurd rfl h0
      · rename_i h2; rw [if_neg h2]; exact .inr (.inl ⟨rfl, rfl⟩)
end Go.Proofs.YthlakbjnmbddaaaGreatDoor

/- vouchkit.SameNode of two trees that are alike: walked. -/
set_option linter.unusedVariables false
set_option linter.unusedSimpArgs false
namespace Go.Proofs.YthlakbjnmbddaaaGreatDoor
open Go.RowKit

set_option maxRecDepth 100000 in
set_option maxHeartbeats 4000000 in
theorem sameN_any (t : T) : ∀ (w : World) (ok1 ok2 : Nat → Prop) (A B : Option Addr) (c d : Nat), NodeAt w ok1 t A c → NodeAt w ok2 t B d → (∀ b, ok1 b → b < w.heap.size) → (∀ b, ok2 b → b < w.heap.size) →
    Calls Tryz.prog 44 #[nodeV t A c, nodeV t B d] w fun e w' => e = .returned (.bool true) ∧ Below w.heap.size w w' := by
  induction t using T.ind with
  | h t ih =>
    intro w ok1 ok2 A B c d hN hM ho1 ho2
    have hlen := hN.len
    have h4 : eq4 t.s0 t.s1 t.s2 t.s3 t.s0 t.s1 t.s2 t.s3 = true := by rw [eq4_iff]; exact ⟨rfl, rfl, rfl, rfl⟩
    have HN := Lib.hid hN; have HM := Lib.hid hM; have Ho1 := Lib.hid ho1; have Ho2 := Lib.hid ho2; have Hih := Lib.hid ih
    clear hN hM ho1 ho2 ih
    go_enter Tryz.func44, Tryz.ntmps44
    go_upto_region 1 with fail
    generalize hW : (w.alloc _).alloc _ = W0
    have hB0 : Below w.heap.size w W0 := by subst hW; exact ((Below.refl _ _).alloc (Nat.le_refl _) _).alloc (by simp) _
    have h8 : At8 W0 w.heap.size 0 t A c := by subst hW; constructor <;> simp [go_sem]
    have h9 : At8 W0 (w.heap.size + 1) 0 t B d := by subst hW; constructor <;> simp [go_sem]
    clear hW
    obtain ⟨f0, f1, f2, f3, f4, f5, f6, f7⟩ := h8
    obtain ⟨g0, g1, g2, g3, g4, g5, g6, g7⟩ := h9
    have hz0 : w.heap.size + 1 < W0.heap.size := World.block_lt_of_cell? _ _ g0
    go_wp2_with fail
    go_loopg [5] (t.ps.length) (fun k i wr => ∃ (j : Nat), i = .int .i64 j ∧ j + k = t.ps.length ∧ Below w.heap.size w wr ∧ W0.heap.size ≤ wr.heap.size ∧ wr.cell? ⟨w.heap.size, 7, none⟩ = some (.slice A t.ps.length c) ∧ wr.cell? ⟨w.heap.size + 1, 7, none⟩ = some (.slice B t.ps.length d))
    case atStart => exact ⟨0, rfl, by omega, hB0, Nat.le_refl _, f7, g7⟩
    case round =>
      obtain ⟨j, rfl, hj, hB, hz, q7, r7⟩ := hrel
      clear f0 f1 f2 f3 f4 f5 f6 f7 g0 g1 g2 g3 g4 g5 g6 g7 hB0 h4
      by_cases hlt : j < t.ps.length
      · obtain ⟨b, o, rfl, hb, hcell⟩ := HN.out.part (by omega)
        obtain ⟨b', o', rfl, hb', hcell'⟩ := HM.out.part (by omega)
        obtain ⟨A1, c1, h8, hN1⟩ := hcell j hlt
        obtain ⟨A2, c2, h9, hN2⟩ := hcell' j hlt
        have Hc := Lib.hid (Hih.out t.ps[j] (List.getElem_mem _))
        have HN1 := Lib.hid ((hN1.later hB Ho1.out).later (B := wr.heap.size) (Below.refl _ _).drew (fun x h => by have := Ho1.out x h; omega))
        have HN2 := Lib.hid ((hN2.later hB Ho2.out).later (B := wr.heap.size) (Below.refl _ _).drew (fun x h => by have := Ho2.out x h; omega))
        obtain ⟨f0, f1, f2, f3, f4, f5, f6, f7⟩ := h8.mono (w' := wr) (fun o => hB.cell (p := ⟨b, o, none⟩) (Ho1.out b hb))
        obtain ⟨g0, g1, g2, g3, g4, g5, g6, g7⟩ := h9.mono (w' := wr) (fun o => hB.cell (p := ⟨b', o, none⟩) (Ho2.out b' hb'))
        have hk1 : ∀ b, ok1 b → b < wr.drew.heap.size := fun b h => by have := Ho1.out b h; show b < wr.heap.size; omega
        have hk2 : ∀ b, ok2 b → b < wr.drew.heap.size := fun b h => by have := Ho2.out b h; show b < wr.heap.size; omega
        have Hk1 := Lib.hid hk1; have Hk2 := Lib.hid hk2
        clear hcell hcell' hN1 hN2 h8 h9 hk1 hk2
        generalize t.ps[j] = q at *
        go_upto_region 6 with fail
        go_region_with (go_at_call 44; refine (Hc.out _ ok1 ok2 A1 A2 c1 c2 HN1.out HN2.out Hk1.out Hk2.out).mono ?_; rintro e w2 ⟨rfl, hb2⟩)
        all_goals
          have hb3 : Below wr.heap.size wr w2 := (Below.refl _ _).drew.step hb2
          have q7' := (hb3.cell (p := ⟨w.heap.size, 7, none⟩) (by show w.heap.size < _; omega)).trans q7
          have r7' := (hb3.cell (p := ⟨w.heap.size + 1, 7, none⟩) (by show w.heap.size + 1 < _; omega)).trans r7
          have hB' := hB.step hb3
          have hz' := hb3.size
          go_wp2_with fail
          go_roundg (gk - 1)
          case measure => omega
          case rel => exact ⟨j + 1, by go_num, by omega, hB', by omega, q7', r7'⟩
      · go_wp2_with fail
        go_ret
        exact ⟨rfl, hB⟩
end Go.Proofs.YthlakbjnmbddaaaGreatDoor

/- vouchref10's Reader: its state; fail, is, take, done: walked. -/
set_option linter.unusedVariables false
set_option linter.unusedSimpArgs false
namespace Go.Proofs.YthlakbjnmbddaaaGreatDoor
open Go.RowKit

/-- The Reader's four cells: the text, where it stands, open brackets, what is wrong. -/
structure Rdq (w : World) (p : Nat) (S : Bs) (k : Nat) (op e : Int) : Prop where
  c0 : w.cell? ⟨p, 0, none⟩ = some (.string (bs S))
  c1 : w.cell? ⟨p, 1, none⟩ = some (.int .i64 k)
  c2 : w.cell? ⟨p, 2, none⟩ = some (.int .i64 op)
  c3 : w.cell? ⟨p, 3, none⟩ = some (.int .i64 e)
  z : ∀ o, w.frozen? ⟨p, o, none⟩ = false
  lt : p < w.heap.size
  le : k ≤ S.length
  top : S.length ≤ 1024
theorem Rdq.later {w w' : World} {p : Nat} {S : Bs} {k : Nat} {op e : Int} (h : Rdq w p S k op e) (hb : Below w.heap.size w w') : Rdq w' p S k op e :=
  ⟨(hb.cell (p := ⟨p, 0, none⟩) h.lt).trans h.c0, (hb.cell (p := ⟨p, 1, none⟩) h.lt).trans h.c1, (hb.cell (p := ⟨p, 2, none⟩) h.lt).trans h.c2, (hb.cell (p := ⟨p, 3, none⟩) h.lt).trans h.c3, fun o => (hb.frozen (p := ⟨p, o, none⟩) h.lt).trans (h.z o), Nat.lt_of_lt_of_le h.lt hb.size, h.le, h.top⟩
theorem Rdq.set1 {w : World} {p : Nat} {S : Bs} {k : Nat} {op e : Int} (h : Rdq w p S k op e) {k' : Nat} (hk : k' ≤ S.length) : Rdq (w.setCell ⟨p, 1, none⟩ (.int .i64 k')) p S k' op e :=
  ⟨(World.cell?_setCell_other _ _ _ _ (by simp)).trans h.c0, World.cell?_setCell_same _ _ _ h.c1, (World.cell?_setCell_other _ _ _ _ (by simp)).trans h.c2, (World.cell?_setCell_other _ _ _ _ (by simp)).trans h.c3, fun o => by rw [World.frozen?_setCell]; exact h.z o, by simpa using h.lt, hk, h.top⟩
theorem Rdq.set2 {w : World} {p : Nat} {S : Bs} {k : Nat} {op e : Int} (h : Rdq w p S k op e) (op' : Int) : Rdq (w.setCell ⟨p, 2, none⟩ (.int .i64 op')) p S k op' e :=
  ⟨(World.cell?_setCell_other _ _ _ _ (by simp)).trans h.c0, (World.cell?_setCell_other _ _ _ _ (by simp)).trans h.c1, World.cell?_setCell_same _ _ _ h.c2, (World.cell?_setCell_other _ _ _ _ (by simp)).trans h.c3, fun o => by rw [World.frozen?_setCell]; exact h.z o, by simpa using h.lt, h.le, h.top⟩
theorem Rdq.set3 {w : World} {p : Nat} {S : Bs} {k : Nat} {op e : Int} (h : Rdq w p S k op e) (e' : Int) : Rdq (w.setCell ⟨p, 3, none⟩ (.int .i64 e')) p S k op e' :=
  ⟨(World.cell?_setCell_other _ _ _ _ (by simp)).trans h.c0, (World.cell?_setCell_other _ _ _ _ (by simp)).trans h.c1, (World.cell?_setCell_other _ _ _ _ (by simp)).trans h.c2, World.cell?_setCell_same _ _ _ h.c3, fun o => by rw [World.frozen?_setCell]; exact h.z o, by simpa using h.lt, h.le, h.top⟩

/-- The Reader over a text: what is left tu read, or what is wrong; then it stands anywhere. -/
structure RQ (w : World) (p : Nat) (S : Bs) (k : Nat) (op : Int) (s : Rs) : Prop where
  rdr : Rdq w p S k op s.no
  ok : ∀ r, s = .ok r → r = S.drop k
  ne : ∀ e, s = .error e → e ≠ 0
theorem RQ.later {w w' : World} {p : Nat} {S : Bs} {k : Nat} {op : Int} {s : Rs} (h : RQ w p S k op s) (hb : Below w.heap.size w w') : RQ w' p S k op s := ⟨h.rdr.later hb, h.ok, h.ne⟩
theorem RQ.lt {w : World} {p : Nat} {S : Bs} {k : Nat} {op : Int} {s : Rs} (h : RQ w p S k op s) : p < w.heap.size := h.rdr.lt
theorem RQ.len {w : World} {p : Nat} {S : Bs} {k : Nat} {op : Int} {r : Bs} (h : RQ w p S k op (.ok r)) : r.length = S.length - k := by rw [h.ok r rfl]; simp
theorem bsq_size (r : Bs) : (bs r).size = r.length := by simp [bs, ByteArray.size]
theorem bsq_slice (S : Bs) (k n : Nat) (h : k + n ≤ S.length) : (bs S).extract k (k + n) = bs ((S.drop k).take n) := by
  rw [Lib.extract_eq]
  congr 2
  simp only [bs]
  rw [show k + n - k = n by omega]
theorem qrun_cut (S : Bs) (i n : Nat) (h : i + n ≤ S.length) (w : World) : (Instr.slice 9 (.string (bs S)) (some (.int .i64 (i : Int))) (some (.int .i64 ((i : Int) + (n : Int)))) none).run Tryz.prog w = .ok (.string (bs ((S.drop i).take n))) w := by
  rw [run_slice_string (h := Tryz.underlying9) (h0 := by omega) (h1 := by omega) (h2 := by rw [bsq_size]; omega), ← bsq_slice S i n h]
  rfl
theorem take_pref (q r : Bs) (h : q.length ≤ r.length) : (r.take q.length == q) = q.isPrefixOf r := by
  rw [Bool.eq_iff_iff, beq_iff_eq, List.isPrefixOf_iff_prefix]
  constructor
  · intro e; rw [← e]; exact List.take_prefix _ _
  · rintro ⟨t, rfl⟩; simp

set_option maxRecDepth 100000 in
set_option maxHeartbeats 400000 in
theorem qfail_any (w : World) (p : Nat) (S : Bs) (k : Nat) (op : Int) (s : Rs) (x : Int) (hx : x ≠ 0) (h : RQ w p S k op s) :
    Calls Tryz.prog 66 #[.pointer (some ⟨p, 0, none⟩), .int .i64 x] w fun en w' => en = .returned (.tuple #[]) ∧ RQ w' p S k op (failS s x) ∧ Off p w w' := by
  have c3 := h.rdr.c3
  have z3 := h.rdr.z 3
  cases s with
  | ok r =>
    simp only [Rs.no] at c3
    have H := Lib.hid h; clear h
    go_enter Tryz.func66, Tryz.ntmps66
    go_wp2_with fail
    go_end0
    exact ⟨rfl, ⟨H.out.rdr.set3 x, (fun r he => by cases he), fun e he => by cases he; exact hx⟩, (Off.refl p w).set _ _⟩
  | error e =>
    have hne := h.ne e rfl
    simp only [Rs.no] at c3
    have hb : (e == 0) = false := by rw [beq_eq_false_iff_ne]; exact hne
    have H := Lib.hid h; clear h hne
    go_enter Tryz.func66, Tryz.ntmps66
    go_wp2_with fail
    go_end0
    exact ⟨rfl, H.out, Off.refl p w⟩
theorem belowQ (w : World) (n : Nat) : Below w.heap.size w (w.drewN n) := ⟨rfl, rfl, rfl, Nat.le_refl _, fun _ _ => rfl⟩
theorem RQ.drewN {w : World} {p : Nat} {S : Bs} {k : Nat} {op : Int} {s : Rs} (h : RQ w p S k op s) (n : Nat) : RQ (w.drewN n) p S k op s := h.later (belowQ w n)
theorem offQ (p : Nat) (w : World) (n : Nat) : Off p w (w.drewN n) := Off.of_below (belowQ w n)
set_option maxRecDepth 100000 in
set_option maxHeartbeats 1000000 in
theorem is_any (w : World) (p : Nat) (S : Bs) (k : Nat) (op : Int) (s : Rs) (q : Bs) (hq : q.length ≤ 100) (h : RQ w p S k op s) :
    Calls Tryz.prog 102 #[.pointer (some ⟨p, 0, none⟩), .string (bs q)] w fun en w' => en = .returned (.bool (takeS q s).1) ∧ ∃ m, w' = w.drewN m := by
  obtain ⟨c0, c1, c2, c3, z, lt, le, top⟩ := h.rdr
  have sq := bsq_size q
  have sS := bsq_size S
  cases s with
  | error e =>
    have hne := h.ne e rfl
    simp only [Rs.no] at c3
    have hb : (e == 0) = false := by rw [beq_eq_false_iff_ne]; exact hne
    have HT := Lib.hid (show (takeS q (.error e)).1 = false from rfl)
    clear h hne z
    go_enter Tryz.func102, Tryz.ntmps102
    go_wp2_with fail
    go_quiet (fail)
    go_wp2_with fail
    go_ret
    exact ⟨by rw [HT.out]; rfl, _, rfl⟩
  | ok r =>
    simp only [Rs.no] at c3
    have hr := h.ok r rfl
    have hrl := h.len
    have Hr := Lib.hid hr
    clear h z hr
    by_cases hlt : k + q.length ≤ S.length
    · have he := fun w => qrun_cut S k q.length hlt w
      have hp : ((S.drop k).take q.length == q) = (takeS q (.ok r)).1 := by
        rw [take_pref _ _ (by simp; omega), takeS_ok, Hr.out]
      have HP := Lib.hid hp
      have hle : (k : Int) + (q.length : Int) ≤ (S.length : Int) := by omega
      clear hp Hr hlt
      go_enter Tryz.func102, Tryz.ntmps102
      go_wp2_with fail
      go_quiet (fail)
      go_wp2_with fail
      go_ret
      exact ⟨by rw [← HP.out]; rfl, _, rfl⟩
    · have hp : (takeS q (.ok r)).1 = false := by
        rw [takeS_ok]
        show q.isPrefixOf r = false
        rw [← Bool.not_eq_true]
        intro hh
        have := pref_len hh
        omega
      have HP := Lib.hid hp
      have hle : decide ((k : Int) + (q.length : Int) ≤ (S.length : Int)) = false := by rw [decide_eq_false_iff_not]; omega
      clear hp Hr hlt
      go_enter Tryz.func102, Tryz.ntmps102
      go_wp2_with fail
      go_quiet (fail)
      go_wp2_with fail
      go_ret
      exact ⟨by rw [HP.out]; rfl, _, rfl⟩
set_option maxRecDepth 100000 in
set_option maxHeartbeats 1000000 in
theorem qtake_any (w : World) (p : Nat) (S : Bs) (k : Nat) (op : Int) (s : Rs) (q : Bs) (hq : q.length ≤ 100) (h : RQ w p S k op s) :
    Calls Tryz.prog 86 #[.pointer (some ⟨p, 0, none⟩), .string (bs q)] w fun en w' => en = .returned (.bool (takeS q s).1) ∧ (∃ k', RQ w' p S k' op (takeS q s).2) ∧ Off p w w' := by
  have sq := bsq_size q
  have H := Lib.hid h
  have Ci := Lib.hid (is_any w p S k op s q hq h)
  clear h
  cases hi : (takeS q s).1 with
  | false =>
    have ht : (takeS q s).2 = s := by
      cases s with
      | error e => rfl
      | ok r =>
        rw [takeS_ok] at hi ⊢
        simp only at hi
        unfold cutR
        rw [hi]; rfl
    have HT := Lib.hid ht
    have HI := Lib.hid hi
    clear ht hi
    go_enter Tryz.func86, Tryz.ntmps86
    go_wp2_with fail
    refine Ci.out.mono ?_
    rintro en w1 ⟨rfl, m, rfl⟩
    rw [HI.out]
    go_wp2_with fail
    go_ret
    exact ⟨rfl, ⟨k, by rw [HT.out]; exact H.out.drewN m⟩, offQ p w m⟩
  | true =>
    cases s with
    | error e => cases hi
    | ok r =>
      have hs := hi
      rw [takeS_ok] at hs
      simp only at hs
      have hlen := pref_len hs
      have hr := H.out.len
      have ht : (takeS q (.ok r)).2 = .ok (r.drop q.length) := by
        rw [takeS_ok]
        show Except.ok (cutR q r) = _
        unfold cutR
        rw [if_pos hs]
      have HT := Lib.hid ht
      have HI := Lib.hid hi
      clear ht hi hs
      go_enter Tryz.func86, Tryz.ntmps86
      go_wp2_with fail
      refine Ci.out.mono ?_
      rintro en w1 ⟨rfl, m, rfl⟩
      rw [HI.out]
      have hR := H.out.drewN m
      have c1 := hR.rdr.c1
      have z1 := hR.rdr.z 1
      have hkb : k ≤ 1024 := Nat.le_trans hR.rdr.le hR.rdr.top
      have HR := Lib.hid hR
      have HO := Lib.hid (offQ p w m)
      generalize w.drewN m = w1 at *
      clear hR
      go_wp2_with fail
      go_ret
      refine ⟨rfl, ⟨k + q.length, ?_⟩, HO.out.set _ _⟩
      rw [HT.out]
      have := HR.out.rdr.set1 (k' := k + q.length) (by have := HR.out.rdr.le; omega)
      refine ⟨?_, fun r' he => ?_, fun e he => by cases he⟩
      · rw [show ((k + q.length : Nat) : Int) = (k : Int) + q.length by omega] at this
        exact this
      · cases he
        rw [HR.out.ok r rfl, List.drop_drop]
/-- Is nothing left, or something wrong? -/
def doneS (s : Rs) : Bool := match s with
  | .ok [] => true
  | .ok (_ :: _) => false
  | .error _ => true
set_option maxRecDepth 100000 in
set_option maxHeartbeats 1000000 in
theorem done_any (w : World) (p : Nat) (S : Bs) (k : Nat) (op : Int) (s : Rs) (h : RQ w p S k op s) :
    Calls Tryz.prog 65 #[.pointer (some ⟨p, 0, none⟩)] w fun en w' => en = .returned (.bool (doneS s)) ∧ ∃ m, w' = w.drewN m := by
  obtain ⟨c0, c1, c2, c3, z, lt, le, top⟩ := h.rdr
  have sS := bsq_size S
  clear z
  rcases s with e | (_ | ⟨c, t⟩)
  · have hne := h.ne e rfl
    simp only [Rs.no] at c3
    have hb : (e != 0) = true := by rw [bne_iff_ne]; exact hne
    clear h
    go_enter Tryz.func65, Tryz.ntmps65
    go_wp2_with fail
    go_quiet (fail)
    go_wp2_with fail
    go_ret
    exact ⟨rfl, _, rfl⟩
  · have hl := h.len
    simp only [Rs.no] at c3
    simp only [List.length_nil] at hl
    have hle : (S.length : Int) ≤ (k : Int) := by omega
    clear h hl
    go_enter Tryz.func65, Tryz.ntmps65
    go_wp2_with fail
    go_quiet (fail)
    go_wp2_with fail
    go_ret
    exact ⟨rfl, _, rfl⟩
  · have hl := h.len
    simp only [Rs.no] at c3
    simp only [List.length_cons] at hl
    have Hge := Lib.hid (show ¬ S.length ≤ k by omega)
    have hle : decide ((S.length : Int) ≤ (k : Int)) = false := by rw [decide_eq_false_iff_not]; omega
    clear h hl
    go_enter Tryz.func65, Tryz.ntmps65
    go_wp2_with fail
    go_quiet (fail)
    go_wp2_with fail
    go_ret
    exact ⟨congrArg (fun b => Ending.returned (.bool b)) (decide_eq_false Hge.out), _, rfl⟩
/-- The same two, the world behind them a name. -/
theorem is_q {w : World} {p : Nat} {S : Bs} {k : Nat} {op : Int} {s : Rs} (q : Bs) (hq : q.length ≤ 100) (h : RQ w p S k op s) :
    Calls Tryz.prog 102 #[.pointer (some ⟨p, 0, none⟩), .string (bs q)] w fun en w' => en = .returned (.bool (takeS q s).1) ∧ RQ w' p S k op s ∧ Off p w w' := by
  refine (is_any w p S k op s q hq h).mono ?_
  rintro en w' ⟨rfl, m, rfl⟩
  exact ⟨rfl, h.drewN m, offQ p w m⟩
theorem done_q {w : World} {p : Nat} {S : Bs} {k : Nat} {op : Int} {s : Rs} (h : RQ w p S k op s) :
    Calls Tryz.prog 65 #[.pointer (some ⟨p, 0, none⟩)] w fun en w' => en = .returned (.bool (doneS s)) ∧ RQ w' p S k op s ∧ Off p w w' := by
  refine (done_any w p S k op s h).mono ?_
  rintro en w' ⟨rfl, m, rfl⟩
  exact ⟨rfl, h.drewN m, offQ p w m⟩
theorem Off.drew {p : Nat} {w w' : World} (h : Off p w w') : Off p w w'.drew := h.trans (Off.of_below (Below.refl _ _).drew)
theorem RQ.drew {w : World} {p : Nat} {S : Bs} {k : Nat} {op : Int} {s : Rs} (h : RQ w p S k op s) : RQ w.drew p S k op s := h.later (Below.refl _ _).drew
end Go.Proofs.YthlakbjnmbddaaaGreatDoor

/- vouchref10's Reader: single, member: walked. -/
set_option linter.unusedVariables false
set_option linter.unusedSimpArgs false
namespace Go.Proofs.YthlakbjnmbddaaaGreatDoor
open Go.RowKit

theorem bsq_cat (a b : Bs) : bs a ++ bs b = bs (a ++ b) := by
  apply ByteArray.ext
  simp [bs]
theorem done_n {w : World} {p : Nat} {S : Bs} {k : Nat} {op : Int} {s : Rs} (b : Bool) (hb : doneS s = b) (h : RQ w p S k op s) (n : Nat) :
    Calls Tryz.prog 65 #[.pointer (some ⟨p, 0, none⟩)] (w.drewN n) fun en w' => en = .returned (.bool b) ∧ ∃ m, w' = (w.drewN n).drewN m := by
  subst hb
  exact done_any (w.drewN n) p S k op s (h.drewN n)
/-- What a step hands back that reads a byte. -/
def QByte (p : Nat) (S : Bs) (op : Int) (f : Bs → Except Int (Nat × Bs)) (r : Bs) (w : World) (en : Ending) (w' : World) : Prop :=
  ∃ (c : Nat) (k' : Nat) (s' : Rs), c < 256 ∧ en = .returned (.int .u8 (c : Nat)) ∧ RQ w' p S k' op s' ∧ Off p w w' ∧ Out f (.ok r) (fun x => c = x) s'
theorem single_short {g : UInt8} {r : Bs} (h : r.length < 3) : singleP g r = .error 101 := by
  unfold singleP
  match r, h with
  | [], _ => rfl
  | [c], _ => simp [takeP, List.isPrefixOf]
  | [c, d], _ => simp [takeP, List.isPrefixOf]
theorem single_three {g c d e : UInt8} {t : Bs} : singleP g (c :: d :: e :: t) = if d = g ∧ e = 93 then .ok (c.toNat, t) else .error 101 := by
  unfold singleP
  simp only [takeP, List.isPrefixOf, Bool.and_true]
  by_cases h1 : d = g
  · by_cases h2 : e = 93
    · subst h1 h2; simp
    · rw [if_neg (by simp [h1]; exact fun h => h2 h.symm)]
      rw [if_neg (fun h => h2 h.2)]
  · rw [if_neg (by simp; intro h; exact absurd h.symm h1), if_neg (fun h => h1 h.1)]
theorem RQ.at_ {w : World} {p : Nat} {S : Bs} {k : Nat} {op : Int} {c : UInt8} {t : Bs} (h : RQ w p S k op (.ok (c :: t))) : k < S.length ∧ ∀ hh, S[k]'hh = c := by
  have hl := h.len
  have hr := h.ok _ rfl
  simp only [List.length_cons] at hl
  have hk : k < S.length := by omega
  refine ⟨hk, fun hh => ?_⟩
  rw [List.drop_eq_getElem_cons hk] at hr
  simp only [List.cons.injEq] at hr
  exact hr.1.symm
theorem RQ.step {w : World} {p : Nat} {S : Bs} {k : Nat} {op : Int} {r : Bs} (h : RQ w p S k op (.ok r)) (n : Nat) (hn : n ≤ r.length) : RQ (w.setCell ⟨p, 1, none⟩ (.int .i64 ((k : Int) + (n : Int)))) p S (k + n) op (.ok (r.drop n)) := by
  have hl := h.len
  have := h.rdr.set1 (k' := k + n) (by have := h.rdr.le; omega)
  refine ⟨?_, fun r' he => ?_, fun e he => by cases he⟩
  · rw [show ((k + n : Nat) : Int) = (k : Int) + n by omega] at this
    exact this
  · cases he
    rw [h.ok r rfl, List.drop_drop]
set_option maxRecDepth 100000 in
set_option maxHeartbeats 2000000 in
theorem qsingle_any (w : World) (p : Nat) (S : Bs) (k : Nat) (op : Int) (a b : UInt8) (r : Bs) (g : UInt8) (h : RQ w p S k op (.ok (a :: b :: r))) :
    Calls Tryz.prog 160 #[.pointer (some ⟨p, 0, none⟩), .string (bs [g])] w fun en w' => QByte p S op (singleP g) r w en w' := by
  obtain ⟨c0, c1, c2, c3, z, lt, le, top⟩ := h.rdr
  have z1 := z 1
  have sS := bsq_size S
  have hl := h.len
  simp only [List.length_cons] at hl
  have hkb : k ≤ 1000 + 24 := by omega
  have hst := h.step 2 (by simp)
  simp only [List.drop_succ_cons, List.drop_zero] at hst
  have HST := Lib.hid hst
  have cc : bs [g] ++ bs [93] = bs [g, 93] := bsq_cat _ _
  have Hl := Lib.hid hl
  clear h z hst hl
  go_enter Tryz.func160, Tryz.ntmps160
  go_upto_region 2 with fail
  generalize hW : w.setCell ⟨p, 1, none⟩ _ = W1
  have hr1 : RQ W1 p S (k + 2) op (.ok r) := by subst hW; exact HST.out
  have hO1 : Off p w W1 := by subst hW; exact (Off.refl p w).set _ _
  clear hW HST c0 c1 c2 c3 z1
  have hk2 : ∃ k2, RQ W1 p S k2 op (.ok r) := ⟨_, hr1⟩
  clear hr1 Hl hkb le
  obtain ⟨k2, hr1⟩ := hk2
  obtain ⟨c0, c1, c2, c3, z, lt1, le1, top1⟩ := hr1.rdr
  have hlen1 := hr1.len
  have HR1 := Lib.hid hr1; have HO1 := Lib.hid hO1
  have hkb2 : k2 ≤ 1024 := by omega
  clear z hr1 hO1
  by_cases hs : r.length < 3
  · have Hs := Lib.hid (single_short (g := g) hs)
    have hgt : (S.length : Int) < (k2 : Int) + 3 := by have := hlen1; have := HR1.out.rdr.le; omega
    clear hs hlen1
    go_quiet (fail)
    go_wp2_with fail
    refine (qfail_any _ p S k2 op (.ok r) 101 (by omega) (HR1.out.drewN _)).mono ?_
    rintro en w3 ⟨rfl, h3, hO3⟩
    go_wp2_with fail
    go_ret
    exact ⟨0, k2, _, by omega, rfl, h3, (HO1.out.trans (offQ p _ _)).trans hO3, Out.bad Hs.out⟩
  · obtain ⟨c, d, e, t, rfl⟩ : ∃ c d e t, r = c :: d :: e :: t := by
      match r, hs with
      | c :: d :: e :: t, _ => exact ⟨c, d, e, t, rfl⟩
      | [], h => simp at h
      | [_], h => simp at h
      | [_, _], h => simp at h
    simp only [List.length_cons] at hlen1
    have hgt : decide ((S.length : Int) < (k2 : Int) + 3) = false := by rw [decide_eq_false_iff_not]; omega
    have hcut := fun w => qrun_cut S (k2 + 1) 2 (by omega) w
    have hdr : (S.drop (k2 + 1)).take 2 = [d, e] := by
      have h0 := HR1.out.ok _ rfl
      rw [← List.drop_drop, ← h0]; rfl
    rw [hdr] at hcut
    have hcut' : ∀ w, (Instr.slice 9 (.string (bs S)) (some (.int .i64 ((k2 : Int) + 1))) (some (.int .i64 ((k2 : Int) + 3))) none).run Tryz.prog w = .ok (.string (bs [d, e])) w := fun w => by
      have := hcut w
      rw [show ((k2 + 1 : Nat) : Int) + ((2 : Nat) : Int) = (k2 : Int) + 3 by omega, show ((k2 + 1 : Nat) : Int) = (k2 : Int) + 1 by omega] at this
      exact this
    clear hcut hdr hs
    have hat := HR1.out.at_
    have hkS := hat.1
    have Hlen1 := Lib.hid hlen1
    clear hlen1
    have H3 := Lib.hid (single_three (g := g) (c := c) (d := d) (e := e) (t := t))
    have hcl := c.toNat_lt
    by_cases hde : d = g ∧ e = 93
    · obtain ⟨rfl, rfl⟩ := hde
      have Hs := Lib.hid (show singleP d (c :: d :: 93 :: t) = .ok (c.toNat, t) by rw [H3.out, if_pos ⟨rfl, rfl⟩])
      have hne : (([d, 93] : Bs) != [d, 93]) = false := by simp
      have hix := hat.2
      have hkI : (k2 : Int) < (S.length : Int) := by omega
      clear H3 hat
      go_quiet (fail)
      go_wp2_with fail
      have hq := HR1.out.drewN nq
      have HO2 := Lib.hid (HO1.out.trans (offQ p W1 nq))
      generalize W1.drewN nq = Wa at *
      have HRa := Lib.hid hq
      have b0 := hq.rdr.c0
      have b1 := hq.rdr.c1
      clear hq c0 c1 c2 c3 hcut' HO1
      go_quiet (fail)
      have hq := HRa.out.drewN nq
      have HO3 := Lib.hid (HO2.out.trans (offQ p Wa nq))
      generalize Wa.drewN nq = Wb at *
      have HRb := Lib.hid hq
      have c1 := hq.rdr.c1
      have z1 := hq.rdr.z 1
      clear hq b0 b1 HO2 HRa
      go_wp2_with fail
      go_ret
      have hst := HRb.out.step 3 (by simp)
      refine ⟨c.toNat, k2 + 3, _, hcl, by rw [← hix hkS]; rfl, hst, HO3.out.set _ _, Out.good Hs.out rfl⟩
    · have Hs := Lib.hid (show singleP g (c :: d :: e :: t) = .error 101 by rw [H3.out, if_neg hde])
      have hne : (([d, e] : Bs) != [g, 93]) = true := by
        rw [bne_iff_ne]; intro h; simp at h; exact hde h
      have hne2 : ((!d == g) || (!e == 93)) = true := by
        rw [Bool.or_eq_true, Bool.not_eq_true', Bool.not_eq_true', beq_eq_false_iff_ne, beq_eq_false_iff_ne]
        by_cases h : d = g
        · exact .inr (fun h2 => hde ⟨h, h2⟩)
        · exact .inl h
      clear H3 hat hde
      go_quiet (fail)
      go_wp2_with fail
      refine (qfail_any _ p S k2 op (.ok (c :: d :: e :: t)) 101 (by omega) (HR1.out.drewN _)).mono ?_
      rintro en w3 ⟨rfl, h3, hO3⟩
      go_wp2_with fail
      go_ret
      exact ⟨0, k2, _, by omega, rfl, h3, (HO1.out.trans (offQ p _ _)).trans hO3, Out.bad Hs.out⟩
/-- A member; the second one of a range is no class, no [=. -/
def memberQ (sec : Bool) (r : Bs) : Except Int (Nat × Bs) := if (sec && ((takeS [91, 58] (.ok r)).1 || (takeS [91, 61] (.ok r)).1)) = true then .error 101 else memberP r
theorem takeS_some {q r r' : Bs} (h : takeP q r = some r') : takeS q (.ok r) = (true, .ok r') := by simp only [takeS, h]
theorem takeS_none {q r : Bs} (h : takeP q r = none) : takeS q (.ok r) = (false, .ok r) := by simp only [takeS, h]
theorem pref_two {a b : UInt8} {r r' : Bs} (h : takeP [a, b] r = some r') : r = a :: b :: r' := by
  unfold takeP at h
  split at h
  · rename_i hp
    simp only [Option.some.injEq] at h
    subst h
    obtain ⟨t, ht⟩ := List.isPrefixOf_iff_prefix.1 hp
    subst ht
    rfl
  · cases h
set_option maxRecDepth 100000 in
set_option maxHeartbeats 4000000 in
theorem qmember_any (w : World) (p : Nat) (S : Bs) (k : Nat) (op : Int) (r : Bs) (sec : Bool) (h : RQ w p S k op (.ok r)) :
    Calls Tryz.prog 161 #[.pointer (some ⟨p, 0, none⟩), .bool sec] w fun en w' => QByte p S op (memberQ sec) r w en w' := by
  have H := Lib.hid h
  have Hd := Lib.hid (done_q h)
  clear h
  cases r with
  | nil =>
    have hs : memberQ sec [] = .error 101 := by unfold memberQ; split <;> rfl
    have Hs := Lib.hid hs
    clear hs
    go_enter Tryz.func161, Tryz.ntmps161
    go_wp2_with fail
    refine Hd.out.mono ?_
    rintro en w1 ⟨rfl, h1, hO1⟩
    rw [show doneS (.ok []) = true from rfl]
    go_wp2_with fail
    refine (qfail_any _ p S k op (.ok []) 101 (by omega) h1).mono ?_
    rintro en wz ⟨rfl, hz, hOz⟩
    go_wp2_with fail
    go_ret
    exact ⟨0, k, _, by omega, rfl, hz, hO1.trans hOz, Out.bad Hs.out⟩
  | cons c t =>
    have hc := c.toNat_lt
    have Hi := Lib.hid (fun w (h : RQ w p S k op (.ok (c :: t))) => is_q [91, 46] (by simp) h)
    have Hj := Lib.hid (fun w (h : RQ w p S k op (.ok (c :: t))) => is_q [91, 58] (by simp) h)
    have Hk := Lib.hid (fun w (h : RQ w p S k op (.ok (c :: t))) => is_q [91, 61] (by simp) h)
    cases ht : takeP [91, 46] (c :: t) with
    | some r1 =>
      have e := pref_two ht
      simp only [List.cons.injEq] at e
      obtain ⟨rfl, rfl⟩ := e
      have hs : memberQ sec (91 :: 46 :: r1) = singleP 46 r1 := by
        unfold memberQ
        rw [if_neg (by simp [takeS, takeP, List.isPrefixOf])]
        simp only [memberP, ht]
      have Hs := Lib.hid hs
      have HT := Lib.hid (congrArg Prod.fst (takeS_some ht))
      clear hs ht Hj Hk
      go_enter Tryz.func161, Tryz.ntmps161
      go_wp2_with fail
      refine Hd.out.mono ?_
      rintro en w1 ⟨rfl, h1, hO1⟩
      rw [show doneS (.ok (91 :: 46 :: r1)) = false from rfl]
      go_wp2_with fail
      refine (Hi.out _ h1).mono ?_
      rintro en w2 ⟨rfl, h2, hO2⟩
      rw [HT.out]
      go_wp2_with fail
      refine (qsingle_any _ p S k op 91 46 r1 46 h2).mono ?_
      rintro en wz ⟨c3, k3, s3, hc3, rfl, hz, hOz, ho3⟩
      have Ho := Lib.hid ho3
      clear ho3
      go_wp2_with fail
      go_ret
      exact ⟨c3, k3, s3, hc3, rfl, hz, (hO1.trans hO2).trans hOz, by have := Ho.out; simp only [Out] at this ⊢; rw [Hs.out]; exact this⟩
    | none =>
      have HT := Lib.hid (congrArg Prod.fst (takeS_none ht))
      have hmem : memberP (c :: t) = .ok (c.toNat, t) := by simp only [memberP, ht]
      have Hmem := Lib.hid hmem
      clear ht hmem
      cases hsec : (sec && ((takeS [91, 58] (.ok (c :: t))).1 || (takeS [91, 61] (.ok (c :: t))).1)) with
      | true =>
        have Hs := Lib.hid (show memberQ sec (c :: t) = .error 101 by unfold memberQ; rw [if_pos hsec])
        cases sec with
        | false => cases hsec
        | true =>
        rw [Bool.true_and] at hsec
        cases h58 : (takeS [91, 58] (.ok (c :: t))).1 with
        | true =>
          have H58 := Lib.hid h58
          clear hsec h58
          go_enter Tryz.func161, Tryz.ntmps161
          go_wp2_with fail
          refine Hd.out.mono ?_
          rintro en w1 ⟨rfl, h1, hO1⟩
          rw [show doneS (.ok (c :: t)) = false from rfl]
          go_wp2_with fail
          refine (Hi.out _ h1).mono ?_
          rintro en w2 ⟨rfl, h2, hO2⟩
          rw [HT.out]
          go_wp2_with fail
          refine (Hj.out _ h2).mono ?_
          rintro en w3 ⟨rfl, h3, hO3⟩
          rw [H58.out]
          go_wp2_with fail
          refine (qfail_any _ p S k op (.ok (c :: t)) 101 (by omega) h3).mono ?_
          rintro en wz ⟨rfl, hz, hOz⟩
          go_wp2_with fail
          go_ret
          exact ⟨0, k, _, by omega, rfl, hz, ((hO1.trans hO2).trans hO3).trans hOz, Out.bad Hs.out⟩
        | false =>
          rw [h58, Bool.false_or] at hsec
          have H58 := Lib.hid h58
          have H61 := Lib.hid hsec
          clear hsec h58
          go_enter Tryz.func161, Tryz.ntmps161
          go_wp2_with fail
          refine Hd.out.mono ?_
          rintro en w1 ⟨rfl, h1, hO1⟩
          rw [show doneS (.ok (c :: t)) = false from rfl]
          go_wp2_with fail
          refine (Hi.out _ h1).mono ?_
          rintro en w2 ⟨rfl, h2, hO2⟩
          rw [HT.out]
          go_wp2_with fail
          refine (Hj.out _ h2).mono ?_
          rintro en w3 ⟨rfl, h3, hO3⟩
          rw [H58.out]
          go_wp2_with fail
          refine (Hk.out _ h3).mono ?_
          rintro en w4 ⟨rfl, h4, hO4⟩
          rw [H61.out]
          go_wp2_with fail
          refine (qfail_any _ p S k op (.ok (c :: t)) 101 (by omega) h4).mono ?_
          rintro en wz ⟨rfl, hz, hOz⟩
          go_wp2_with fail
          go_ret
          exact ⟨0, k, _, by omega, rfl, hz, (((hO1.trans hO2).trans hO3).trans hO4).trans hOz, Out.bad Hs.out⟩
      | false =>
        have Hs := Lib.hid (show memberQ sec (c :: t) = .ok (c.toNat, t) by unfold memberQ; rw [if_neg (by rw [hsec]; simp), Hmem.out])
        have Hsec := Lib.hid hsec
        clear hsec
        have last : ∀ (W : World), RQ W p S k op (.ok (c :: t)) → RQ W p S k op (.ok (c :: t)) ∧ W.cell? ⟨p, 0, none⟩ = some (.string (bs S)) ∧ W.cell? ⟨p, 1, none⟩ = some (.int .i64 k) ∧ W.frozen? ⟨p, 1, none⟩ = false := fun W hW => ⟨hW, hW.rdr.c0, hW.rdr.c1, hW.rdr.z 1⟩
        have Last := Lib.hid last
        clear last
        have hat := H.out.at_
        have hkS := hat.1
        have hix := hat.2
        have hkI : (k : Int) < (S.length : Int) := by omega
        have sS := bsq_size S
        have hkb : k ≤ 1024 := Nat.le_trans H.out.rdr.le H.out.rdr.top
        clear hat
        cases sec with
        | false =>
          go_enter Tryz.func161, Tryz.ntmps161
          go_wp2_with fail
          refine Hd.out.mono ?_
          rintro en w1 ⟨rfl, h1, hO1⟩
          rw [show doneS (.ok (c :: t)) = false from rfl]
          go_wp2_with fail
          refine (Hi.out _ h1).mono ?_
          rintro en w2 ⟨rfl, h2, hO2⟩
          rw [HT.out]
          obtain ⟨hR, c0, c1, z1⟩ := Last.out _ h2
          have HR := Lib.hid hR
          have HO := Lib.hid (hO1.trans hO2)
          clear hR h1 h2 hO1 hO2
          go_upto_region 9 with fail
          go_quiet (fail)
          have hq := HR.out.drewN nq
          have HO3 := Lib.hid (HO.out.trans (offQ p w2 nq))
          generalize w2.drewN nq = Wb at *
          have HRb := Lib.hid hq
          have b1 := hq.rdr.c1
          have bz := hq.rdr.z 1
          clear hq c0 c1 z1 HO HR
          go_wp2_with fail
          go_ret
          have hst := HRb.out.step 1 (by simp)
          exact ⟨c.toNat, k + 1, _, hc, by rw [← hix hkS]; rfl, hst, HO3.out.set _ _, Out.good Hs.out rfl⟩
        | true =>
          have hs2 := Hsec.out
          rw [Bool.true_and, Bool.or_eq_false_iff] at hs2
          have H58 := Lib.hid hs2.1
          have H61 := Lib.hid hs2.2
          clear hs2 Hsec
          go_enter Tryz.func161, Tryz.ntmps161
          go_wp2_with fail
          refine Hd.out.mono ?_
          rintro en w1 ⟨rfl, h1, hO1⟩
          rw [show doneS (.ok (c :: t)) = false from rfl]
          go_wp2_with fail
          refine (Hi.out _ h1).mono ?_
          rintro en w2 ⟨rfl, h2, hO2⟩
          rw [HT.out]
          go_wp2_with fail
          refine (Hj.out _ h2).mono ?_
          rintro en w3 ⟨rfl, h3, hO3⟩
          rw [H58.out]
          go_wp2_with fail
          refine (Hk.out _ h3).mono ?_
          rintro en w4 ⟨rfl, h4, hO4⟩
          rw [H61.out]
          obtain ⟨hR, c0, c1, z1⟩ := Last.out _ h4
          have HR := Lib.hid hR
          have HO := Lib.hid (((hO1.trans hO2).trans hO3).trans hO4)
          clear hR h1 h2 h3 h4 hO1 hO2 hO3 hO4
          go_upto_region 9 with fail
          go_quiet (fail)
          have hq := HR.out.drewN nq
          have HO3 := Lib.hid (HO.out.trans (offQ p w4 nq))
          generalize w4.drewN nq = Wb at *
          have HRb := Lib.hid hq
          have b1 := hq.rdr.c1
          have bz := hq.rdr.z 1
          clear hq c0 c1 z1 HO HR
          go_wp2_with fail
          go_ret
          have hst := HRb.out.step 1 (by simp)
          exact ⟨c.toNat, k + 1, _, hc, by rw [← hix hkS]; rfl, hst, HO3.out.set _ _, Out.good Hs.out rfl⟩

end Go.Proofs.YthlakbjnmbddaaaGreatDoor

/- vouchref10's Reader: digits, interval: walked. -/
set_option linter.unusedVariables false
set_option linter.unusedSimpArgs false
namespace Go.Proofs.YthlakbjnmbddaaaGreatDoor
open Go.RowKit

/-- What digits hands back. -/
def QDig (p : Nat) (S : Bs) (op : Int) (s : Rs) (w : World) (en : Ending) (w' : World) : Prop :=
  ∃ (n : Int) (k' : Nat) (s' : Rs), en = .returned (.int .i64 n) ∧ RQ w' p S k' op s' ∧ Off p w w' ∧
    match s with
    | .error e => n = -1 ∧ s' = .error e
    | .ok r => (∃ m r', numberP r = .ok (m, r') ∧ n = m ∧ 0 ≤ m ∧ m ≤ 255 ∧ s' = .ok r') ∨ (numberP r = .error 105 ∧ n = -1 ∧ ∃ r', s' = .ok r' ∧ r'.length ≤ r.length)
set_option maxRecDepth 100000 in
set_option maxHeartbeats 4000000 in
theorem qdigits_err (w : World) (p : Nat) (S : Bs) (k : Nat) (op : Int) (e : Int) (h : RQ w p S k op (.error e)) :
    Calls Tryz.prog 139 #[.pointer (some ⟨p, 0, none⟩)] w fun en w' => QDig p S op (.error e) w en w' := by
  have c0 := h.rdr.c0
  have c1 := h.rdr.c1
  have hkb : k ≤ 1024 := Nat.le_trans h.rdr.le h.rdr.top
  have H := Lib.hid h
  clear h
  go_enter Tryz.func139, Tryz.ntmps139
  go_wp2_with fail
  go_loopg [3] 1 (fun n a wr => a = .int .i64 0 ∧ wr = w)
  case atStart => exact ⟨rfl, rfl⟩
  case round =>
    obtain ⟨rfl, rfl⟩ := hrel
    have Hdone := Lib.hid (done_n true rfl H.out)
    go_upto_region 3 with fail
    go_quiet (first | (go_at_call 65; refine Calls.quiet_of (Hdone.out _)))
    have hq := H.out.drewN nq
    have HOq := Lib.hid (offQ p wr nq)
    generalize wr.drewN nq = W1 at *
    have HQ := Lib.hid hq
    have d1 := hq.rdr.c1
    clear hq c0 c1 H Hdone
    go_wp2_with fail
    all_goals
      go_ret
      exact ⟨-1, k, _, rfl, HQ.out, HOq.out, rfl, rfl⟩
set_option maxRecDepth 100000 in
set_option maxHeartbeats 8000000 in
theorem qdigits_ok (w : World) (p : Nat) (S : Bs) (k0 : Nat) (op : Int) (r : Bs) (h : RQ w p S k0 op (.ok r)) :
    Calls Tryz.prog 139 #[.pointer (some ⟨p, 0, none⟩)] w fun en w' => QDig p S op (.ok r) w en w' := by
  have c1 := h.rdr.c1
  have sS := bsq_size S
  have hkb : k0 ≤ 1024 := Nat.le_trans h.rdr.le h.rdr.top
  have H := Lib.hid h
  clear h
  go_enter Tryz.func139, Tryz.ntmps139
  go_wp2_with fail
  go_loopg [3] 4 (fun k a wr => ∃ (n : Int) (wd kk : Nat) (r' : Bs), a = .int .i64 n ∧ k + wd = 4 ∧ kk = k0 + wd ∧ 0 ≤ n ∧ n ≤ lim10 wd ∧ digitsP k n wd r' = digitsP 4 0 0 r ∧ r'.length ≤ r.length ∧ RQ wr p S kk op (.ok r') ∧ Off p w wr)
  case atStart => exact ⟨0, 0, k0, r, rfl, rfl, rfl, by omega, by simp [lim10], rfl, Nat.le_refl _, H.out, Off.refl p w⟩
  case round =>
    obtain ⟨n, wd, kk, r', rfl, hk, hkk, hn0, hn1, hd, hlen, hR, hO⟩ := hrel
    have hn2 : n ≤ 9999 := by
      unfold lim10 at hn1
      split at hn1; omega; split at hn1; omega; split at hn1; omega; split at hn1; omega; omega
    have c0 := hR.rdr.c0
    have c1 := hR.rdr.c1
    have hkb2 : kk ≤ 1024 := Nat.le_trans hR.rdr.le hR.rdr.top
    have HR := Lib.hid hR; have Hd := Lib.hid hd; have Hn1 := Lib.hid hn1; have HO := Lib.hid hO; have Hlen := Lib.hid hlen; have Hkk := Lib.hid hkk
    clear hR hd hn1 hO hlen hkk H
    have done : gk = 0 ∨ r' = [] ∨ (∃ c t, r' = c :: t ∧ isDigit c = false) → digitsP 4 0 0 r = (n, wd, r') := fun hh => by
      rw [← Hd.out]
      rcases hh with rfl | rfl | ⟨c, t, rfl, hc⟩
      · rw [digitsP]
      · cases gk <;> rw [digitsP]
      · cases gk with
        | zero => rw [digitsP]
        | succ k => rw [digitsP, hc]; rfl
    have Done := Lib.hid done; clear done
    rcases r' with _ | ⟨c, t⟩
    · have Hdone := Lib.hid (done_n true rfl HR.out)
      go_upto_region 3 with fail
      go_quiet (first | (go_at_call 65; refine Calls.quiet_of (Hdone.out _)))
      have hq := HR.out.drewN nq
      have HOq := Lib.hid (HO.out.trans (offQ p wr nq))
      generalize wr.drewN nq = W1 at *
      have HQ := Lib.hid hq
      have d1 := hq.rdr.c1
      clear hq c0 c1 HR HO Hdone
      have Done := Lib.hid (Done.out (.inr (.inl rfl)))
      by_cases bad : wd = 0 ∨ 3 < wd ∨ 255 < n
      · have Hn := Lib.hid (show numberP r = .error 105 by unfold numberP; rw [Done.out]; exact if_pos bad)
        clear Done Hd
        by_cases b1 : wd = 0
        · have hb1 : ((kk : Int) == (k0 : Int)) = true := by have := Hkk.out; rw [beq_iff_eq]; omega
          clear bad b1
          go_wp2_with fail
          all_goals
            go_ret
            exact ⟨-1, kk, _, rfl, HQ.out, HOq.out, .inr ⟨Hn.out, rfl, _, rfl, Hlen.out⟩⟩
        have hb1 : ((kk : Int) == (k0 : Int)) = false := by have := Hkk.out; rw [beq_eq_false_iff_ne]; omega
        by_cases b2 : 3 < wd
        · have hb2 : (k0 : Int) + 3 < (kk : Int) := by have := Hkk.out; omega
          clear bad b1 b2
          go_wp2_with fail
          all_goals
            go_ret
            exact ⟨-1, kk, _, rfl, HQ.out, HOq.out, .inr ⟨Hn.out, rfl, _, rfl, Hlen.out⟩⟩
        have hb2 : decide ((k0 : Int) + 3 < (kk : Int)) = false := by have := Hkk.out; rw [decide_eq_false_iff_not]; omega
        have b3 : 255 < n := by omega
        clear bad b1 b2
        go_wp2_with fail
        all_goals
          go_ret
          exact ⟨-1, kk, _, rfl, HQ.out, HOq.out, .inr ⟨Hn.out, rfl, _, rfl, Hlen.out⟩⟩
      · have Hn := Lib.hid (show numberP r = .ok (n, []) by unfold numberP; rw [Done.out]; exact if_neg bad)
        have hb1 : ((kk : Int) == (k0 : Int)) = false := by have := Hkk.out; rw [beq_eq_false_iff_ne]; omega
        have hb2 : decide ((k0 : Int) + 3 < (kk : Int)) = false := by have := Hkk.out; rw [decide_eq_false_iff_not]; omega
        have hb3 : decide ((255 : Int) < n) = false := by rw [decide_eq_false_iff_not]; omega
        have Hb := Lib.hid (show 0 ≤ n ∧ n ≤ 255 by omega)
        clear bad Done Hd
        go_wp2_with fail
        all_goals
          go_ret
          exact ⟨n, kk, _, rfl, HQ.out, HOq.out, .inl ⟨n, _, Hn.out, rfl, Hb.out.1, Hb.out.2, rfl⟩⟩
    · have hc2 : c.toNat < 256 := c.toNat_lt
      have hat := HR.out.at_
      have hkI : (kk : Int) < (S.length : Int) := by have := hat.1; omega
      have hidx : ∀ (hh : kk < (bs S).size), ((bs S)[kk]'hh) = c := fun hh => hat.2 (by rw [sS] at hh; exact hh)
      clear hat
      have Hdone := Lib.hid (done_n false rfl HR.out)
      by_cases e1 : 48 ≤ c.toNat
      case neg =>
        have t1 : decide ((48 : Int) ≤ (c.toNat : Int)) = false := by rw [decide_eq_false_iff_not]; omega
        go_upto_region 3 with fail
        go_quiet (first | (go_at_call 65; refine Calls.quiet_of (Hdone.out _)))
        have hq := HR.out.drewN nq
        have HOq := Lib.hid (HO.out.trans (offQ p wr nq))
        generalize wr.drewN nq = W1 at *
        have HQ := Lib.hid hq
        have d1 := hq.rdr.c1
        clear hq c0 c1 HR HO Hdone
        have Done := Lib.hid (Done.out (.inr (.inr ⟨c, t, rfl, by simp [isDigit]; omega⟩)))
        by_cases bad : wd = 0 ∨ 3 < wd ∨ 255 < n
        · have Hn := Lib.hid (show numberP r = .error 105 by unfold numberP; rw [Done.out]; exact if_pos bad)
          clear Done Hd
          by_cases b1 : wd = 0
          · have hb1 : ((kk : Int) == (k0 : Int)) = true := by have := Hkk.out; rw [beq_iff_eq]; omega
            clear bad b1
            go_wp2_with fail
            all_goals
              go_ret
              exact ⟨-1, kk, _, rfl, HQ.out, HOq.out, .inr ⟨Hn.out, rfl, _, rfl, Hlen.out⟩⟩
          have hb1 : ((kk : Int) == (k0 : Int)) = false := by have := Hkk.out; rw [beq_eq_false_iff_ne]; omega
          by_cases b2 : 3 < wd
          · have hb2 : (k0 : Int) + 3 < (kk : Int) := by have := Hkk.out; omega
            clear bad b1 b2
            go_wp2_with fail
            all_goals
              go_ret
              exact ⟨-1, kk, _, rfl, HQ.out, HOq.out, .inr ⟨Hn.out, rfl, _, rfl, Hlen.out⟩⟩
          have hb2 : decide ((k0 : Int) + 3 < (kk : Int)) = false := by have := Hkk.out; rw [decide_eq_false_iff_not]; omega
          have b3 : 255 < n := by omega
          clear bad b1 b2
          go_wp2_with fail
          all_goals
            go_ret
            exact ⟨-1, kk, _, rfl, HQ.out, HOq.out, .inr ⟨Hn.out, rfl, _, rfl, Hlen.out⟩⟩
        · have Hn := Lib.hid (show numberP r = .ok (n, c :: t) by unfold numberP; rw [Done.out]; exact if_neg bad)
          have hb1 : ((kk : Int) == (k0 : Int)) = false := by have := Hkk.out; rw [beq_eq_false_iff_ne]; omega
          have hb2 : decide ((k0 : Int) + 3 < (kk : Int)) = false := by have := Hkk.out; rw [decide_eq_false_iff_not]; omega
          have hb3 : decide ((255 : Int) < n) = false := by rw [decide_eq_false_iff_not]; omega
          have Hb := Lib.hid (show 0 ≤ n ∧ n ≤ 255 by omega)
          clear bad Done Hd
          go_wp2_with fail
          all_goals
            go_ret
            exact ⟨n, kk, _, rfl, HQ.out, HOq.out, .inl ⟨n, _, Hn.out, rfl, Hb.out.1, Hb.out.2, rfl⟩⟩
      have t1 : (48 : Int) ≤ (c.toNat : Int) := by omega
      by_cases e2 : c.toNat ≤ 57
      case neg =>
        have t2 : decide ((c.toNat : Int) ≤ 57) = false := by rw [decide_eq_false_iff_not]; omega
        go_upto_region 3 with fail
        go_quiet (first | (go_at_call 65; refine Calls.quiet_of (Hdone.out _)))
        have hq := HR.out.drewN nq
        have HOq := Lib.hid (HO.out.trans (offQ p wr nq))
        generalize wr.drewN nq = W1 at *
        have HQ := Lib.hid hq
        have d1 := hq.rdr.c1
        clear hq c0 c1 HR HO Hdone
        have Done := Lib.hid (Done.out (.inr (.inr ⟨c, t, rfl, by simp [isDigit]; omega⟩)))
        by_cases bad : wd = 0 ∨ 3 < wd ∨ 255 < n
        · have Hn := Lib.hid (show numberP r = .error 105 by unfold numberP; rw [Done.out]; exact if_pos bad)
          clear Done Hd
          by_cases b1 : wd = 0
          · have hb1 : ((kk : Int) == (k0 : Int)) = true := by have := Hkk.out; rw [beq_iff_eq]; omega
            clear bad b1
            go_wp2_with fail
            all_goals
              go_ret
              exact ⟨-1, kk, _, rfl, HQ.out, HOq.out, .inr ⟨Hn.out, rfl, _, rfl, Hlen.out⟩⟩
          have hb1 : ((kk : Int) == (k0 : Int)) = false := by have := Hkk.out; rw [beq_eq_false_iff_ne]; omega
          by_cases b2 : 3 < wd
          · have hb2 : (k0 : Int) + 3 < (kk : Int) := by have := Hkk.out; omega
            clear bad b1 b2
            go_wp2_with fail
            all_goals
              go_ret
              exact ⟨-1, kk, _, rfl, HQ.out, HOq.out, .inr ⟨Hn.out, rfl, _, rfl, Hlen.out⟩⟩
          have hb2 : decide ((k0 : Int) + 3 < (kk : Int)) = false := by have := Hkk.out; rw [decide_eq_false_iff_not]; omega
          have b3 : 255 < n := by omega
          clear bad b1 b2
          go_wp2_with fail
          all_goals
            go_ret
            exact ⟨-1, kk, _, rfl, HQ.out, HOq.out, .inr ⟨Hn.out, rfl, _, rfl, Hlen.out⟩⟩
        · have Hn := Lib.hid (show numberP r = .ok (n, c :: t) by unfold numberP; rw [Done.out]; exact if_neg bad)
          have hb1 : ((kk : Int) == (k0 : Int)) = false := by have := Hkk.out; rw [beq_eq_false_iff_ne]; omega
          have hb2 : decide ((k0 : Int) + 3 < (kk : Int)) = false := by have := Hkk.out; rw [decide_eq_false_iff_not]; omega
          have hb3 : decide ((255 : Int) < n) = false := by rw [decide_eq_false_iff_not]; omega
          have Hb := Lib.hid (show 0 ≤ n ∧ n ≤ 255 by omega)
          clear bad Done Hd
          go_wp2_with fail
          all_goals
            go_ret
            exact ⟨n, kk, _, rfl, HQ.out, HOq.out, .inl ⟨n, _, Hn.out, rfl, Hb.out.1, Hb.out.2, rfl⟩⟩
      have t2 : (c.toNat : Int) ≤ 57 := by omega
      by_cases e3 : wd < 4
      case neg =>
        have t3 : decide ((kk : Int) < (k0 : Int) + 4) = false := by have := Hkk.out; rw [decide_eq_false_iff_not]; omega
        go_upto_region 3 with fail
        go_quiet (first | (go_at_call 65; refine Calls.quiet_of (Hdone.out _)))
        have hq := HR.out.drewN nq
        have HOq := Lib.hid (HO.out.trans (offQ p wr nq))
        generalize wr.drewN nq = W1 at *
        have HQ := Lib.hid hq
        have d1 := hq.rdr.c1
        clear hq c0 c1 HR HO Hdone
        have Done := Lib.hid (Done.out (.inl (by omega)))
        by_cases bad : wd = 0 ∨ 3 < wd ∨ 255 < n
        · have Hn := Lib.hid (show numberP r = .error 105 by unfold numberP; rw [Done.out]; exact if_pos bad)
          clear Done Hd
          by_cases b1 : wd = 0
          · have hb1 : ((kk : Int) == (k0 : Int)) = true := by have := Hkk.out; rw [beq_iff_eq]; omega
            clear bad b1
            go_wp2_with fail
            all_goals
              go_ret
              exact ⟨-1, kk, _, rfl, HQ.out, HOq.out, .inr ⟨Hn.out, rfl, _, rfl, Hlen.out⟩⟩
          have hb1 : ((kk : Int) == (k0 : Int)) = false := by have := Hkk.out; rw [beq_eq_false_iff_ne]; omega
          by_cases b2 : 3 < wd
          · have hb2 : (k0 : Int) + 3 < (kk : Int) := by have := Hkk.out; omega
            clear bad b1 b2
            go_wp2_with fail
            all_goals
              go_ret
              exact ⟨-1, kk, _, rfl, HQ.out, HOq.out, .inr ⟨Hn.out, rfl, _, rfl, Hlen.out⟩⟩
          have hb2 : decide ((k0 : Int) + 3 < (kk : Int)) = false := by have := Hkk.out; rw [decide_eq_false_iff_not]; omega
          have b3 : 255 < n := by omega
          clear bad b1 b2
          go_wp2_with fail
          all_goals
            go_ret
            exact ⟨-1, kk, _, rfl, HQ.out, HOq.out, .inr ⟨Hn.out, rfl, _, rfl, Hlen.out⟩⟩
        · have Hn := Lib.hid (show numberP r = .ok (n, c :: t) by unfold numberP; rw [Done.out]; exact if_neg bad)
          have hb1 : ((kk : Int) == (k0 : Int)) = false := by have := Hkk.out; rw [beq_eq_false_iff_ne]; omega
          have hb2 : decide ((k0 : Int) + 3 < (kk : Int)) = false := by have := Hkk.out; rw [decide_eq_false_iff_not]; omega
          have hb3 : decide ((255 : Int) < n) = false := by rw [decide_eq_false_iff_not]; omega
          have Hb := Lib.hid (show 0 ≤ n ∧ n ≤ 255 by omega)
          clear bad Done Hd
          go_wp2_with fail
          all_goals
            go_ret
            exact ⟨n, kk, _, rfl, HQ.out, HOq.out, .inl ⟨n, _, Hn.out, rfl, Hb.out.1, Hb.out.2, rfl⟩⟩
      have t3 : (kk : Int) < (k0 : Int) + 4 := by have := Hkk.out; omega
      obtain ⟨g, rfl⟩ : ∃ g, gk = g + 1 := ⟨gk - 1, by omega⟩
      have hdg : isDigit c = true := by simp [isDigit]; omega
      have hstep : digitsP g (10 * n + (c.toNat - 48)) (wd + 1) t = digitsP 4 0 0 r := by
        rw [← Hd.out]
        conv => rhs; rw [digitsP, hdg]
        rfl
      have hl10 : 10 * n + ((c.toNat : Int) - 48) ≤ lim10 (wd + 1) := by
        have h1 := Hn1.out
        unfold lim10 at h1 ⊢
        rcases (show wd = 0 ∨ wd = 1 ∨ wd = 2 ∨ wd = 3 by omega) with rfl | rfl | rfl | rfl <;> simp at h1 ⊢ <;> omega
      have Hstep := Lib.hid hstep; have Hl10 := Lib.hid hl10
      clear hstep hl10 hdg Done Hd Hn1
      go_upto_region 3 with fail
      go_quiet (first | (go_at_call 65; refine Calls.quiet_of (Hdone.out _)))
      have hq := HR.out.drewN nq
      have HOq := Lib.hid (HO.out.trans (offQ p wr nq))
      generalize wr.drewN nq = W1 at *
      have HQ := Lib.hid hq
      have d0 := hq.rdr.c0
      have d1 := hq.rdr.c1
      clear hq c0 c1 HR HO Hdone
      go_wp2_with fail
      go_quiet (fail)
      have hq := HQ.out.drewN nq
      have HO2 := Lib.hid (HOq.out.trans (offQ p W1 nq))
      generalize W1.drewN nq = W2 at *
      have HQ2 := Lib.hid hq
      have b1 := hq.rdr.c1
      have bz := hq.rdr.z 1
      clear hq d0 d1 HQ HOq
      go_wp2_with fail
      have hst := HQ2.out.step 1 (by simp)
      go_roundg g
      case measure => omega
      case rel => exact ⟨10 * n + ((c.toNat : Int) - 48), wd + 1, kk + 1, t, by first | rfl | go_num, by omega, by have := Hkk.out; omega, by omega, Hl10.out, Hstep.out, by have := Hlen.out; simp at this; omega, hst, HO2.out.set _ _⟩
end Go.Proofs.YthlakbjnmbddaaaGreatDoor

