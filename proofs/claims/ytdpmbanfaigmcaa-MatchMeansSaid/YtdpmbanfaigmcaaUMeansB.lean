/- MatchMeans holds: whatever comes in, the call of the law returns true, and what came in reads as it read. -/
import Derived.Test.YtdpmbanfaigmcaaUHasA
import Derived.Test.YtdpmbanfaigmcaaUHasB
import Derived.Test.YtdpmbanfaigmcaaUHasC
import Derived.Test.YtdpmbanfaigmcaaUMeansA
import Derived.ShutString
import Derived.Below
import Derived.Carry
/- The law MatchMeans: walked. -/
set_option linter.unusedVariables false
set_option linter.unusedSimpArgs false
namespace Go.Proofs.Ytdpmbanfaigmcaa
open Go.RowKit

theorem mul_le3 (a b : Nat) (ha : a ≤ 5000) (hb : b ≤ 2048) : 0 ≤ (a : Int) * (b : Int) ∧ (a : Int) * (b : Int) ≤ 10240000 := by
  have h1 : a * b ≤ 5000 * 2048 := Nat.mul_le_mul ha hb
  have e : (a : Int) * (b : Int) = ((a * b : Nat) : Int) := by push_cast; rfl
  rw [e]; omega
/-- Of a tree's machine: what Has tells. -/
theorem has_make {t : T} (h : sizeE t = 0) (subj : Bs) (hl : subj.length ≤ 65536) : (hasF (makeL t) (makeS t) subj).1 = descF subj t ∧ (hasF (makeL t) (makeS t) subj).2.2 = 0 ∧
    1 ≤ (hasF (makeL t) (makeS t) subj).2.1 ∧ (hasF (makeL t) (makeS t) subj).2.1 ≤ ((makeL t).length : Int) * ((subj.length : Int) + 1) := by
  have hck := make_check h
  have hm := mok_of hck
  have hres : hasF (makeL t) (makeS t) subj = ((overF (makeL t) (makeS t) subj (subj.length + 1) 0 [] 0).1, (overF (makeL t) (makeS t) subj (subj.length + 1) 0 [] 0).2, 0) := by rw [hasF, if_neg (by simpa using hck), if_neg (by omega)]
  obtain ⟨hb1, hb2⟩ := over_bd hm subj (subj.length + 1) 0 [] 0 (by simp)
  have hb2 := hb2 (by omega)
  rw [hres]
  refine ⟨?_, rfl, by simp only; omega, ?_⟩
  · rw [Bool.eq_iff_iff]
    simp only
    rw [found_iff h, desc_iff subj t (sizeE_zero h).1]
  · rw [Int.natCast_add, Int.natCast_one, Int.mul_comm, Int.zero_add] at hb1
    exact hb1
set_option maxRecDepth 100000 in
set_option maxHeartbeats 4000000 in
theorem mmeans_any (w : World) (t : T) (ok : Nat → Prop) (A : Option Addr) (c : Nat) (hN : NodeAt w ok t A c) (hok : ∀ b, ok b → b < w.heap.size) (hw : Words t) (subj : Bs) (hsl : subj.length ≤ maxLen) :
    Calls Try.prog 9 #[nodeV t A c, .string (bs subj)] w fun e w' => e = .returned (.bool true) ∧ Below w.heap.size w w' := by
  unfold maxLen at hsl
  have hsz0 : (bs subj).size = subj.length := by simp [bs, ByteArray.size]
  have HN := Lib.hid hN; have Hok := Lib.hid hok; have Hw := Lib.hid hw
  clear hN hok hw
  go_enter Try.func9, Try.ntmps9
  go_wp2_with fail
  generalize hW : w.alloc _ = W0
  have hB0 : Below w.heap.size w W0 := by subst hW; exact (Below.refl _ _).alloc (Nat.le_refl _) _
  have q0 : W0.cell? ⟨w.heap.size, 0, none⟩ = some (.int .i64 t.k) := by subst hW; simp [go_sem]
  have q1 : W0.cell? ⟨w.heap.size, 1, none⟩ = some (.int .u64 t.s0) := by subst hW; simp [go_sem]
  have q2 : W0.cell? ⟨w.heap.size, 2, none⟩ = some (.int .u64 t.s1) := by subst hW; simp [go_sem]
  have q3 : W0.cell? ⟨w.heap.size, 3, none⟩ = some (.int .u64 t.s2) := by subst hW; simp [go_sem]
  have q4 : W0.cell? ⟨w.heap.size, 4, none⟩ = some (.int .u64 t.s3) := by subst hW; simp [go_sem]
  have q5 : W0.cell? ⟨w.heap.size, 5, none⟩ = some (.int .i64 t.mn) := by subst hW; simp [go_sem]
  have q6 : W0.cell? ⟨w.heap.size, 6, none⟩ = some (.int .i64 t.mx) := by subst hW; simp [go_sem]
  have q7 : W0.cell? ⟨w.heap.size, 7, none⟩ = some (.slice A t.ps.length c) := by subst hW; simp [go_sem]
  have hsz : w.heap.size < W0.heap.size := by subst hW; simp
  clear hW
  have HB0 := Lib.hid hB0
  clear hB0
  refine (few_any t W0 ok A c (HN.out.later HB0.out Hok.out) (fun b h => by have := Hok.out b h; omega)).mono ?_
  rintro e w1 ⟨⟨bb, rfl⟩, hb1⟩
  have hz1 := hb1.size
  have HB1 := Lib.hid (HB0.out.trans (hb1.mono (by omega)))
  cases bb with
  | false =>
    clear hb1
    go_wp2_with fail
    exact bodyPost_ret (v := .bool true) (by simp [results, Try.results9, go_sem]) rfl ⟨rfl, HB1.out⟩
  | true =>
    by_cases hlong : 60 < (subj.length : Int)
    · clear hb1
      go_wp2_with fail
      exact bodyPost_ret (v := .bool true) (by simp [results, Try.results9, go_sem]) rfl ⟨rfl, HB1.out⟩
    obtain ⟨hc1, hf1⟩ := bcell hb1
    rw [← hc1 _ _ hsz] at q0 q1 q2 q3 q4 q5 q6 q7
    clear hc1 hf1 hb1
    go_wp2_with fail
    refine (make_any t w1 ok A c (HN.out.later HB1.out Hok.out) (fun b h => by have := Hok.out b h; omega)).mono ?_
    rintro e w2 ⟨v, rfl, ho2, hb2⟩
    obtain ⟨A2, c2, rfl⟩ := own_form ho2
    have hz2 := hb2.size
    have HB2 := Lib.hid (HB1.out.trans (hb2.mono (by omega)))
    have Ho2 := Lib.hid ho2
    obtain ⟨hc1, hf1⟩ := bcell hb2
    rw [← hc1 _ _ (by omega)] at q0 q1 q2 q3 q4 q5 q6 q7
    clear hc1 hf1 hb2 ho2
    have hml := makeL_le t
    by_cases he : sizeE t = 0
    case' neg =>
      have hb : (sizeE t != 0) = true := by rw [bne_iff_ne]; exact he
      clear he
      go_wp2_with fail
      generalize hW : w2.alloc _ = W3
      have hb3 : Below w2.heap.size w2 W3 := by subst hW; exact (Below.refl _ _).alloc (Nat.le_refl _) _
      clear hW
      refine (works12_any W3).mono ?_
      rintro e w4 ⟨rfl, hb4⟩
      have hz3 := hb3.size
      go_wp2_with fail
      exact bodyPost_ret (v := .bool true) (by simp [results, Try.results9, go_sem]) rfl ⟨rfl, HB2.out.trans ((hb3.mono (by omega)).trans (hb4.mono (by omega)))⟩
    obtain ⟨r1, r2, r3, r4⟩ := has_make he subj (by omega)
    have hr := (sizeE_zero he).1
    have Hr := Lib.hid hr
    obtain ⟨hn0, hn1⟩ := mul_le3 (makeL t).length (subj.length + 1) (by omega) (by omega)
    rw [Int.natCast_add, Int.natCast_one] at hn0 hn1
    have hb : (sizeE t != 0) = false := by rw [he]; rfl
    rw [he]
    clear he hr
    go_wp2_with fail
    generalize hW : w2.alloc _ = W3
    have hb3 : Below w2.heap.size w2 W3 := by subst hW; exact (Below.refl _ _).alloc (Nat.le_refl _) _
    have m0 : W3.cell? ⟨w2.heap.size, 0, none⟩ = some (.slice A2 (makeL t).length c2) := by subst hW; simp [go_sem]
    have m1 : W3.cell? ⟨w2.heap.size, 1, none⟩ = some (.int .i64 (makeS t)) := by subst hW; simp [go_sem]
    have hz3 : w2.heap.size < W3.heap.size := by subst hW; simp
    clear hW
    have Ho3 := Lib.hid (own_later Ho2.out hb3)
    have HB3 := Lib.hid (HB2.out.trans (hb3.mono (by omega)))
    obtain ⟨hc1, hf1⟩ := bcell hb3
    rw [← hc1 _ _ (by omega)] at q0 q1 q2 q3 q4 q5 q6 q7
    clear hc1 hf1 hb3 Ho2
    refine (has_any W3 (fun b => b < W3.heap.size) (makeL t) (makeS t) A2 c2 (sts_all Ho3.out hml) (fun b h => h) subj).mono ?_
    rintro e w4 ⟨rfl, hb4⟩
    have hz4 := hb4.size
    have HB4 := Lib.hid (HB3.out.trans (hb4.mono (by omega)))
    obtain ⟨hc1, hf1⟩ := bcell hb4
    rw [← hc1 _ _ (by omega)] at q0 q1 q2 q3 q4 q5 q6 q7 m0 m1
    clear hc1 hf1 hb4
    rw [r1, r2]
    generalize (hasF (makeL t) (makeS t) subj).2.1 = n at *
    clear r1 r2
    generalize (makeL t).length = ml at *
    go_wp2_with fail
    refine (desc_any subj (by omega) t Hr.out Hw.out w4 ok A c (HN.out.later HB4.out Hok.out) (fun b h => by have := Hok.out b h; omega)).mono ?_
    rintro e w5 ⟨rfl, hb5⟩
    have hz5 := hb5.size
    have HB5 := Lib.hid (HB4.out.trans (hb5.mono (by omega)))
    obtain ⟨hc1, hf1⟩ := bcell hb5
    rw [← hc1 _ _ (by omega)] at m0 m1
    clear hc1 hf1 hb5
    go_wp2_with fail
    refine (works12_any w5).mono ?_
    rintro e w6 ⟨rfl, hb6⟩
    go_wp2_with fail
    exact bodyPost_ret (v := .bool true) (by simp [results, Try.results9, go_sem]) rfl ⟨rfl, HB5.out.trans (hb6.mono (by omega))⟩
end Go.Proofs.Ytdpmbanfaigmcaa

/- Arguments opened: trees. -/
set_option linter.unusedVariables false
set_option linter.unusedSimpArgs false
namespace Go.Proofs.Ytdpmbanfaigmcaa
open Go.RowKit Go.ChangeShapes Go.WideShapes Go.Deep

theorem Try.cellsNode : Try.prog.cellsOf 27 = 8 := by kernel_rfl
theorem Try.cellsNodes : Try.prog.cellsOf 25 = 1 := by kernel_rfl
theorem Try.bytesNode : Try.prog.bytesOf 27 = 80 := by kernel_rfl
theorem len8 {α : Type} {l : List α} (h : l.length = 8) : ∃ a b c d e f g k, l = [a, b, c, d, e, f, g, k] := by
  match l, h with
  | [a, b, c, d, e, f, g, k], _ => exact ⟨a, b, c, d, e, f, g, k, rfl⟩
theorem weights_all {H : Type} {P : Program} {e : TypeId} : ∀ {l : List (DataW H)} {d : DataW H}, d ∈ l → ∀ n ∈ d.weights P e, n ∈ DataW.weightsAll P e l
  | x :: l, d, h, n, hn => by
    rw [DataW.weightsAll, List.mem_append]
    cases h with
    | head => exact .inl hn
    | tail _ h => exact .inr (weights_all h n hn)

section
variable {H : Type} {enc : TypeId × Value → H} {P : Program} {tSt tSts tNfa tSet tI tU tN tNs : TypeId} {w : World} {base : Nat} {spare : Nat → Bool} {held : Bool}
/-- What the program says of the types of trees. -/
structure TypesT (P : Program) (tN tNs tSet tI : TypeId) : Prop where
  ns : P.underlying tNs = some (.slice tN)
  n : ∃ f0 f1 f2 f3 f4, P.underlying tN = some (.struct #[f0, f1, f2, f3, f4]) ∧ (f0.type = tI ∧ f0.offset = 0) ∧ (f1.type = tSet ∧ f1.offset = 1) ∧ (f2.type = tI ∧ f2.offset = 5) ∧ (f3.type = tI ∧ f3.offset = 6) ∧ (f4.type = tNs ∧ f4.offset = 7)
  cN : P.cellsOf tN = 8
  cNs : P.cellsOf tNs = 1
  bN : P.bytesOf tN = 80
theorem open_node (K : Types P tSt tSts tNfa tSet tI tU) (L : TypesT P tN tNs tSet tI) : ∀ (fuel : Nat) (cs : List Value) (x : DataW H × List MemPlace), DataW.trod enc P w base spare held fuel tN cs = some x → (∀ n ∈ x.1.weights P tN, n ≤ reachBytes) →
    ∃ (t : T) (A : Option Addr) (c : Nat), cs = ncell (t, A, c) ∧ NodeAt w (fun b => b < w.heap.size) t A c ∧ Words t := by
  intro fuel
  induction fuel using Nat.strongRecOn with
  | ind fuel ih =>
  intro cs x h hz
  obtain ⟨q0, q1, q2, q3, q4, hst, ⟨t0, o0⟩, ⟨t1, o1⟩, ⟨t2, o2⟩, ⟨t3, o3⟩, t4, o4⟩ := L.n
  obtain ⟨xs, m, rfl, hx, hl, hxl, hi⟩ := DataW.trod_struct hst h
  rw [L.cN] at hl
  have hxl5 : xs.length = 5 := hxl
  obtain ⟨c0, c1, c2, c3, c4, c5, c6, c7, rfl⟩ := len8 hl
  clear h
  have h0 := hi 0 q0 rfl
  have h1 := hi 1 q1 rfl
  have h2 := hi 2 q2 rfl
  have h3 := hi 3 q3 rfl
  have h4 := hi 4 q4 rfl
  rw [t0, o0, K.cI] at h0
  rw [t1, o1, K.cSet] at h1
  rw [t2, o2, K.cI] at h2
  rw [t3, o3, K.cI] at h3
  rw [t4, o4, L.cNs] at h4
  rw [List.getElem?_eq_getElem (by omega)] at h0 h1 h2 h3 h4
  obtain ⟨k, hk, _⟩ := DataW.trod_int K.i h0
  obtain ⟨a, b, c, d, hs, hwk⟩ := open_set K h1
  obtain ⟨mn, hn, _⟩ := DataW.trod_int K.i h2
  obtain ⟨mx, ho, _⟩ := DataW.trod_int K.i h3
  simp at hk hs hn ho
  obtain ⟨rfl, rfl, rfl, rfl⟩ := hs
  subst hk hn ho
  have hz4 : ∀ n ∈ (xs[4]).1.weights P tNs, n ≤ reachBytes := fun n hn => hz n (by
    rw [hx]
    simp only [DataW.weights, hst]
    refine DataW.weights_mem_each (j := 4) (t := tNs) (d := (xs[4]).1) ?_ ?_ n hn
    · simp [t4]
    · rw [List.getElem?_map, List.getElem?_eq_getElem (by omega)]; rfl)
  rcases DataW.trod_slice L.ns h4 with ⟨hc, hx0⟩ | ⟨ad, len, cap, elems, rest, n, rfl, hc, hx4, hb, hlc, hcm, hel, hat, _, _⟩
  · simp at hc
    subst hc
    exact ⟨.mk k a b c d mn mx [], none, 0, rfl, .mk _ _ _ (fun _ => none) (fun _ => 0) (by simp [T.ps]) (by simp [T.ps]) (fun e => absurd rfl e) (fun i p hp => by simp [T.ps] at hp), .mk _ hwk (fun p hp => by cases hp)⟩
  · simp at hc
    subst hc
    rw [hx4] at hz4
    simp only [DataW.weights, L.ns, L.bN, List.length_map] at hz4
    have hlen : len ≤ 17592186044416 := by
      have := hz4 ((elems.length + rest.length) * 80) (by simp)
      have h2 := reachBytes_lt
      omega
    rw [L.cN] at hat
    have hst : ∀ i, i < len → ∃ (y : T × Option Addr × Nat), (∀ j, j < 8 → w.cell? ((ad.add (i * 8)).add j) = (ncell y)[j]?) ∧ NodeAt w (fun b => b < w.heap.size) y.1 y.2.1 y.2.2 ∧ Words y.1 := by
      intro i hi
      have hbi := hat i hi
      rw [List.getElem?_eq_getElem (by omega)] at hbi
      obtain ⟨cs', hcs, ht⟩ := Option.bind_eq_some_iff.1 hbi
      obtain ⟨_, _, hatc⟩ := World.cells?_some hcs
      obtain ⟨t, A, c, rfl, hN, hwt⟩ := ih n (by omega) cs' _ ht (fun nn hnn => hz4 nn (by
        simp only [List.mem_cons, List.mem_append]
        right; left
        exact weights_all (List.mem_map.2 ⟨elems[i], List.getElem_mem _, rfl⟩) nn hnn))
      exact ⟨(t, A, c), hatc, hN, hwt⟩
    let g : Nat → T × Option Addr × Nat := fun i => if h : i < len then Classical.choose (hst i h) else mark
    have hg : ∀ i, i < len → (∀ j, j < 8 → w.cell? ((ad.add (i * 8)).add j) = (ncell (g i))[j]?) ∧ NodeAt w (fun b => b < w.heap.size) (g i).1 (g i).2.1 (g i).2.2 ∧ Words (g i).1 := fun i hi => by
      simp only [g, dif_pos hi]; exact Classical.choose_spec (hst i hi)
    have hps : ∀ i p, ((List.range len).map fun i => (g i).1)[i]? = some p → i < len ∧ p = (g i).1 := by
      intro i p hp
      have hl := (List.getElem?_eq_some_iff.1 hp).1
      simp at hl
      rw [List.getElem?_map, List.getElem?_range hl] at hp
      exact ⟨hl, by simpa using hp.symm⟩
    refine ⟨.mk k a b c d mn mx ((List.range len).map fun i => (g i).1), some ad, cap, by simp [ncell, T.k, T.s0, T.s1, T.s2, T.s3, T.mn, T.mx, T.ps], ?_, .mk _ hwk (fun p hp => by obtain ⟨i, hi, rfl⟩ := List.mem_map.1 hp; exact (hg i (List.mem_range.1 hi)).2.2)⟩
    refine .mk _ _ _ (fun i => (g i).2.1) (fun i => (g i).2.2) (by simpa [T.ps] using hlc) (by simpa [T.ps] using hlen) (fun hne => ?_) (fun i p hp => ?_)
    · have hpos : 0 < len := by
        rcases Nat.eq_zero_or_pos len with h | h
        · exfalso; apply hne; simp [T.ps, h]
        · exact h
      obtain ⟨bb, oo, spot⟩ := ad
      have hc0 := (hg 0 hpos).1 0 (by omega)
      have hspot : spot = none := by
        have := World.cell?_spot (v := .int .i64 (g 0).1.k) (by simpa [ncell] using hc0)
        simpa [Addr.add] using this
      subst hspot
      refine ⟨bb, oo, rfl, ?_, fun i p hp => ?_⟩
      · have : w.cell? ⟨bb, oo, none⟩ = some (.int .i64 (g 0).1.k) := by simpa [addr_add', ncell] using hc0
        exact World.block_lt_of_cell? _ _ this
      · obtain ⟨hi, rfl⟩ := hps i p hp
        exact .of fun j hj => by have := (hg i hi).1 j hj; simpa [addr_add'] using this
    · obtain ⟨hi, rfl⟩ := hps i p hp
      exact (hg i hi).2.1
theorem open_treeW (K : Types P tSt tSts tNfa tSet tI tU) (L : TypesT P tN tNs tSet tI) {b0 : Nat} {v : Value} {d : DataW H} {p : List MemPlace} (hv : Value.okWide P w .any b0 tN v) (h : DataW.Trod enc P w base spare held tN v d p) (hz : ∀ n ∈ d.weights P tN, n ≤ reachBytes) :
    ∃ (t : T) (A : Option Addr) (c : Nat), v = nodeV t A c ∧ NodeAt w (fun b => b < w.heap.size) t A c ∧ Words t := by
  obtain ⟨q0, q1, q2, q3, q4, hst, _⟩ := L.n
  obtain ⟨cs, rfl, hsz⟩ := okWide_struct hst hv
  obtain ⟨fuel, hf⟩ := h
  obtain ⟨t, A, c, hcs, hN, hw⟩ := open_node K L fuel _ _ hf hz
  refine ⟨t, A, c, ?_, hN, hw⟩
  obtain ⟨l⟩ := cs
  simp only [Value.cells] at hcs
  subst hcs
  rfl
theorem open_tree (K : Types P tSt tSts tNfa tSet tI tU) (L : TypesT P tN tNs tSet tI) {b0 : Nat} {v : Value} {d : DataW H} {p : List MemPlace} (hv : Value.okWide P w .any b0 tN v) (h : DataW.Trod enc P w base spare held tN v d p) (hz : ∀ n ∈ d.weights P tN, n ≤ reachBytes) :
    ∃ (t : T) (A : Option Addr) (c : Nat), v = nodeV t A c ∧ NodeAt w (fun b => b < w.heap.size) t A c := by
  obtain ⟨t, A, c, h1, h2, _⟩ := open_treeW K L hv h hz
  exact ⟨t, A, c, h1, h2⟩
end
theorem typesT_ok : TypesT Try.prog 27 25 24 3 :=
  ⟨Try.underlying25, ⟨_, _, _, _, _, Try.underlying27, ⟨rfl, rfl⟩, ⟨rfl, rfl⟩, ⟨rfl, rfl⟩, ⟨rfl, rfl⟩, rfl, rfl⟩, Try.cellsNode, Try.cellsNodes, Try.bytesNode⟩
end Go.Proofs.Ytdpmbanfaigmcaa

/- MatchMeans holds: whatever comes in, the call of the law returns true, and what came in reads as it read. -/
set_option linter.unusedVariables false
set_option linter.unusedSimpArgs false
namespace Go.Proofs.Ytdpmbanfaigmcaa
open Go.ChangeShapes Go.WideShapes Go.ChangeAt Go.RowKit
open Go.ChangeMaps (open_string shut_string)

theorem own : ownKnob Try.prog.godebug = none := by kernel_rfl
theorem laidOut : laidOutB Try.prog = true := by kernel_rfl
theorem str_bs (s : ByteArray) : ∃ r : Bs, s = bs r := ⟨s.data.toList, by simp [bs]⟩

set_option maxRecDepth 100000 in
theorem matchMeans_lifted (os : Os) (started : os.Started) (H : Type) (enc : TypeId × Value → H) :
    ReturnsInHanded {} Try.checked os 9 .any (Rows.matchMeansSpec.pre6 enc Try.prog Try.f9 Rows.matchMeansRow.domain false) (Rows.matchMeansSpec.post enc Try.prog Try.f9 false true false false) := by
  refine returnsInHanded_of_change_sized (C := Try.checked) own started (by kernel_rfl) Try.func9
    (ChangeSpec.witness6 (enc := enc) (C := Try.checked) false ⟨#[], #[.agg #[.int .i64 0, .int .u64 0, .int .u64 0, .int .u64 0, .int .u64 0, .int .i64 0, .int .i64 0, .slice none 0 0], .string ⟨#[]⟩], []⟩ 8 (by kernel_rfl) (by kernel_rfl) (by kernel_rfl) (by kernel_rfl)) ?_
  intro W base args ds gs before hval0 hW hcnd hwz _
  have hval : ∀ (j : Nat) t v, Try.f9.params[j]? = some t → args[j]? = some v → Value.okWide Try.prog W .any base t v := hval0
  have hW' := hW
  obtain ⟨p, q, hA0, hV, rfl, hfz, hnd⟩ := hW
  have hA : DataW.TrodAll enc Try.prog W 0 (fun _ => true) true Try.f9.params.toList args.toList ds p := hA0
  have hwz' : (DataW.weightsEach Try.prog (Try.f9.params.toList ++ Rows.matchMeansSpec.plain.varTypes Try.prog) (ds ++ gs)).all (· ≤ reachBytes) = true := hwz
  rw [Try.params9] at hA hval hwz'
  obtain ⟨v0, vs0, d0, ds0, p0, q0, hargs, rfl, rfl, h0, r0⟩ := trodAll_cons hA
  obtain ⟨v1, vs1, d1, ds1, p1, q1, hargs1, rfl, rfl, h1, r1⟩ := trodAll_cons r0
  obtain ⟨rfl, rfl, rfl⟩ := trodAll_nil r1
  subst hargs1
  obtain rfl : args = #[v0, v1] := by cases args; simp_all
  obtain ⟨rfl, rfl⟩ := trodVars_none hV
  have k0 := h0
  have lt0 : ∀ x ∈ p0, x.block < W.heap.size := by obtain ⟨m, hm⟩ := k0; exact DataW.trod_lt m _ _ _ hm
  obtain ⟨t0, A0, c0, hv0, hst0, hws0⟩ := open_treeW types_ok typesT_ok (hval 0 27 v0 rfl rfl) h0 (fun n hn => by
    have := List.all_eq_true.1 hwz' n (DataW.weights_mem_each (j := 0) (t := 27) (d := d0) rfl rfl n hn)
    simpa using this)
  have k1 := h1
  have lt1 : ∀ x ∈ p1, x.block < W.heap.size := by obtain ⟨m, hm⟩ := k1; exact DataW.trod_lt m _ _ _ hm
  obtain ⟨s1, hv1, _, _, hl1⟩ := open_string Try.underlying9 (hval 1 9 v1 rfl rfl) h1
  obtain ⟨b1, rfl⟩ := str_bs s1
  have hb1 : b1.length ≤ maxLen := by simpa [bs, ByteArray.size] using hl1
  clear hA0 hval0 hwz hwz'
  have hcall := mmeans_any W t0 (fun b => b < W.heap.size) A0 c0 hst0 (fun b h => h) hws0 b1 hb1
  rw [← hv0, ← hv1] at hcall
  refine hcall.mono fun e W' ⟨he, bel⟩ => ?_
  subst he
  exact ⟨_, rfl, _, _, _, [], _, [], hW', trodAll_mk1 (shut_bool Try.underlying4 _), (trodAll_cons_mk (Below.trod laidOut (by kernel_rfl) (of_decide_eq_true (by kernel_rfl)) k0 bel lt0) (trodAll_cons_mk (Below.trod laidOut (by kernel_rfl) (of_decide_eq_true (by kernel_rfl)) k1 bel lt1) trodAll_mk0)), rfl, bel.frame _, fun h => by cases h⟩

theorem matchMeans_over : Rows.matchMeansRow.holds Try.pinned (OpenSpec.ofChange Rows.matchMeansSpec) :=
  OpenClaim.holds_of_wide 9 Try.f9 rfl rfl rfl rfl rfl rfl rfl ⟨rfl, rfl, rfl, rfl, rfl⟩ rfl rfl rfl rfl rfl (by kernel_rfl) Try.func9 (by kernel_rfl)
    (of_decide_eq_true (by kernel_rfl)) (by unfold Func.isWrapper; first | (rw [if_pos (by decide +kernel)]; kernel_rfl) | (rw [if_neg (by decide +kernel)]; exact ⟨rfl, rfl⟩))
    (fun os started H enc _ => matchMeans_lifted os started H enc)

/-- The statement. -/
theorem matchMeans_holds : Rows.MatchMeansSaid := matchMeans_over
end Go.Proofs.Ytdpmbanfaigmcaa

