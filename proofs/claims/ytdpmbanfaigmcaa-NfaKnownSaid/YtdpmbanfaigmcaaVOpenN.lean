/- Arguments opened: machines. -/
import Derived.Test.YtdpmbanfaigmcaaVMach
import Derived.ProofKit
import Derived.OpenShut
import Derived.ChangeOld
import Derived.SizedLaws
import Derived.Deep.Slices
import Derived.Deep.Fields
set_option linter.unusedVariables false
set_option linter.unusedSimpArgs false
namespace Go.Proofs.Ytdpmbanfaigmcaa
open Go.RowKit Go.ChangeShapes Go.WideShapes Go.Deep

theorem Try.cellsState : Try.prog.cellsOf 47 = 7 := by kernel_rfl
theorem Try.cellsSet : Try.prog.cellsOf 24 = 4 := by kernel_rfl
theorem Try.cellsInt : Try.prog.cellsOf 3 = 1 := by kernel_rfl
theorem Try.cellsU : Try.prog.cellsOf 22 = 1 := by kernel_rfl
theorem Try.cellsNfa : Try.prog.cellsOf 35 = 2 := by kernel_rfl
theorem Try.cellsSts : Try.prog.cellsOf 33 = 1 := by kernel_rfl
theorem Try.bytesState : Try.prog.bytesOf 47 = 56 := by kernel_rfl

theorem len2 {α : Type} {l : List α} (h : l.length = 2) : ∃ a b, l = [a, b] := by
  match l, h with
  | [a, b], _ => exact ⟨a, b, rfl⟩
theorem len4 {α : Type} {l : List α} (h : l.length = 4) : ∃ a b c d, l = [a, b, c, d] := by
  match l, h with
  | [a, b, c, d], _ => exact ⟨a, b, c, d, rfl⟩
theorem len7 {α : Type} {l : List α} (h : l.length = 7) : ∃ a b c d e f g, l = [a, b, c, d, e, f, g] := by
  match l, h with
  | [a, b, c, d, e, f, g], _ => exact ⟨a, b, c, d, e, f, g, rfl⟩
section
variable {H : Type} {enc : TypeId × Value → H} {P : Program} {tSt tSts tNfa tSet tI tU : TypeId} {w : World} {base : Nat} {spare : Nat → Bool} {held : Bool}
/-- What the program says of the types. -/
structure Types (P : Program) (tSt tSts tNfa tSet tI tU : TypeId) : Prop where
  set : P.underlying tSet = some (.array 4 tU)
  u : P.underlying tU = some (.int .u64)
  i : P.underlying tI = some (.int .i64)
  sts : P.underlying tSts = some (.slice tSt)
  st : ∃ f0 f1 f2 f3, P.underlying tSt = some (.struct #[f0, f1, f2, f3]) ∧ (f0.type = tI ∧ f0.offset = 0) ∧ (f1.type = tSet ∧ f1.offset = 1) ∧ (f2.type = tI ∧ f2.offset = 5) ∧ (f3.type = tI ∧ f3.offset = 6)
  nfa : ∃ f0 f1, P.underlying tNfa = some (.struct #[f0, f1]) ∧ (f0.type = tSts ∧ f0.offset = 0) ∧ (f1.type = tI ∧ f1.offset = 1)
  cSet : P.cellsOf tSet = 4
  cU : P.cellsOf tU = 1
  cI : P.cellsOf tI = 1
  cSts : P.cellsOf tSts = 1
  cSt : P.cellsOf tSt = 7
  cNfa : P.cellsOf tNfa = 2
  bSt : P.bytesOf tSt = 56
theorem open_set (K : Types P tSt tSts tNfa tSet tI tU) {fuel : Nat} {cs : List Value} {x : DataW H × List MemPlace} (h : DataW.trod enc P w base spare held fuel tSet cs = some x) :
    ∃ a b c d : Int, cs = [.int .u64 a, .int .u64 b, .int .u64 c, .int .u64 d] := by
  obtain ⟨xs, m, rfl, hx, hl, hxl, hi⟩ := DataW.trod_array K.set h
  rw [K.cSet] at hl
  rw [K.cU] at hi
  obtain ⟨c0, c1, c2, c3, rfl⟩ := len4 hl
  · clear h
    have g : ∀ (i : Nat) (v : Value), [c0, c1, c2, c3][i]? = some v → ∃ n, v = .int .u64 n := by
      intro i v hv
      have hi4 : i < 4 := (List.getElem?_eq_some_iff.1 hv).1
      have h1 := hi i hi4
      have hxi : xs[i]? = some (xs[i]'(by omega)) := List.getElem?_eq_getElem (by omega)
      rw [hxi] at h1
      obtain ⟨n, hn, _⟩ := DataW.trod_int K.u h1
      refine ⟨n, ?_⟩
      have := congrArg (·[0]?) hn
      simpa [List.getElem?_take, List.getElem?_drop, hv] using this
    obtain ⟨a, rfl⟩ := g 0 _ rfl
    obtain ⟨b, rfl⟩ := g 1 _ rfl
    obtain ⟨c, rfl⟩ := g 2 _ rfl
    obtain ⟨d, rfl⟩ := g 3 _ rfl
    exact ⟨a, b, c, d, rfl⟩
theorem open_state (K : Types P tSt tSts tNfa tSet tI tU) {fuel : Nat} {cs : List Value} {x : DataW H × List MemPlace} (h : DataW.trod enc P w base spare held fuel tSt cs = some x) : ∃ s : St, cs = s.cells := by
  obtain ⟨f0, f1, f2, f3, hst, ⟨t0, o0⟩, ⟨t1, o1⟩, ⟨t2, o2⟩, t3, o3⟩ := K.st
  obtain ⟨xs, m, rfl, hx, hl, hxl, hi⟩ := DataW.trod_struct hst h
  rw [K.cSt] at hl
  have hxl4 : xs.length = 4 := hxl
  obtain ⟨c0, c1, c2, c3, c4, c5, c6, rfl⟩ := len7 hl
  · clear h
    have h0 := hi 0 f0 rfl
    have h1 := hi 1 f1 rfl
    have h2 := hi 2 f2 rfl
    have h3 := hi 3 f3 rfl
    rw [t0, o0, K.cI] at h0
    rw [t1, o1, K.cSet] at h1
    rw [t2, o2, K.cI] at h2
    rw [t3, o3, K.cI] at h3
    rw [List.getElem?_eq_getElem (by omega)] at h0 h1 h2 h3
    obtain ⟨k, hk, _⟩ := DataW.trod_int K.i h0
    obtain ⟨a, b, c, d, hs⟩ := open_set K h1
    obtain ⟨nx, hn, _⟩ := DataW.trod_int K.i h2
    obtain ⟨ot, ho, _⟩ := DataW.trod_int K.i h3
    simp at hk hs hn ho
    obtain ⟨rfl, rfl, rfl, rfl⟩ := hs
    subst hk hn ho
    exact ⟨⟨k, a, b, c, d, nx, ot⟩, rfl⟩
theorem open_nfa (K : Types P tSt tSts tNfa tSet tI tU) {b0 : Nat} {v : Value} {d : DataW H} {p : List MemPlace} (hv : Value.okWide P w .any b0 tNfa v) (h : DataW.Trod enc P w base spare held tNfa v d p) (hz : ∀ n ∈ d.weights P tNfa, n ≤ reachBytes) :
    ∃ (l : List St) (sa : Int) (A : Option Addr) (c : Nat), v = nfaV l sa A c ∧ StsAt w (fun b => b < w.heap.size) l A c := by
  obtain ⟨f0, f1, hst, ⟨t0, o0⟩, t1, o1⟩ := K.nfa
  obtain ⟨cs, rfl, hsz⟩ := okWide_struct hst hv
  rw [K.cNfa] at hsz
  obtain ⟨l⟩ := cs
  obtain ⟨c0, c1, rfl⟩ := len2 (l := l) hsz
  · clear hv
    obtain ⟨fuel, hf⟩ := h
    obtain ⟨xs, m, rfl, hx, hl, hxl, hi⟩ := DataW.trod_struct hst hf
    have hxl2 : xs.length = 2 := hxl
    have h0 := hi 0 f0 rfl
    have h1 := hi 1 f1 rfl
    rw [t0, o0, K.cSts] at h0
    rw [t1, o1, K.cI] at h1
    rw [List.getElem?_eq_getElem (by omega)] at h0 h1
    obtain ⟨sa, hs, _⟩ := DataW.trod_int K.i h1
    simp [Value.cells] at hs
    subst hs
    rcases open_slice K.sts h0 with ⟨hc, hx0⟩ | ⟨a, len, cap, mm, n, D, Pl, hc, hb, hlc, hcm, hmm, hx0, hel⟩
    · simp [Value.cells] at hc
      subst hc
      exact ⟨[], sa, none, 0, rfl, ⟨by simp, by simp, fun _ => rfl, fun h => by simp at h⟩⟩
    · simp [Value.cells] at hc
      subst hc
      have hlen : len ≤ 17592186044416 := by
        have := hz ((len + (mm - len)) * 56) (by
          have hd : d = .agg (xs.map (·.1)) := by have := congrArg Prod.fst hx; simpa using this
          rw [hd]
          obtain ⟨x0, x1, rfl⟩ := len2 hxl2
          · clear hf hi
            simp only [List.getElem_cons_zero] at hx0
            simp only [List.map_cons, List.map_nil, DataW.weights, hst, DataW.weightsEach, List.mem_append, t0, t1]
            left
            rw [hx0]
            simp [DataW.weights, K.sts, K.bSt])
        have h2 := reachBytes_lt
        omega
      have hlm : len ≤ mm := by rw [hmm]; split <;> omega
      rw [K.cSt] at hel
      have hst : ∀ i, i < len → ∃ s : St, ∀ j, j < 7 → w.cell? ((a.add (i * 7)).add j) = s.cells[j]? := by
        intro i hi
        obtain ⟨cs', hcs, ht⟩ := hel i (by omega)
        obtain ⟨_, _, hat⟩ := World.cells?_some hcs
        obtain ⟨s, rfl⟩ := open_state K ht
        exact ⟨s, hat⟩
      let g : Nat → St := fun i => if h : i < len then Classical.choose (hst i h) else default
      have hg : ∀ i, i < len → ∀ j, j < 7 → w.cell? ((a.add (i * 7)).add j) = (g i).cells[j]? := fun i hi => by
        simp only [g, dif_pos hi]; exact Classical.choose_spec (hst i hi)
      refine ⟨(List.range len).map g, sa, some a, cap, by simp [nfaV], ⟨by simpa using hlc, by simpa using hlen, fun e => by simp at e, fun hne => ?_⟩⟩
      simp only [List.length_map, List.length_range] at hne
      obtain ⟨b, o, spot⟩ := a
      have hc0 := hg 0 hne 0 (by omega)
      have hspot : spot = none := by
        have := World.cell?_spot (v := .int .i64 (g 0).k) (by simpa [St.cells] using hc0)
        simpa [Addr.add] using this
      subst hspot
      refine ⟨b, o, rfl, ?_, fun i hi => .of fun j hj => ?_⟩
      · have : w.cell? ⟨b, o, none⟩ = some (.int .i64 (g 0).k) := by simpa [addr_add', St.cells] using hc0
        exact World.block_lt_of_cell? _ _ this
      · have := hg i (by simpa using hi) j hj
        simpa [addr_add'] using this
end
theorem types_ok : Types Try.prog 47 33 35 24 3 22 :=
  ⟨Try.underlying24, Try.underlying22, Try.underlying3, Try.underlying33, ⟨_, _, _, _, Try.underlying47, ⟨rfl, rfl⟩, ⟨rfl, rfl⟩, ⟨rfl, rfl⟩, rfl, rfl⟩, ⟨_, _, Try.underlying35, ⟨rfl, rfl⟩, rfl, rfl⟩, Try.cellsSet, Try.cellsU, Try.cellsInt, Try.cellsSts, Try.cellsState, Try.cellsNfa, Try.bytesState⟩
end Go.Proofs.Ytdpmbanfaigmcaa
