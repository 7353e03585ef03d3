/- MatchSteps holds: whatever comes in, the call of the law returns true, and what came in reads as it read. -/
import Derived.Test.YtdpmbanfaigmcaaUHasA
import Derived.Test.YtdpmbanfaigmcaaUHasB
import Derived.Test.YtdpmbanfaigmcaaUHasC
import Derived.WalkSpells
import Derived.Laws.BitsAllLaws
import Derived.ProofKit
import Derived.OpenShut
import Derived.ChangeOld
import Derived.SizedLaws
import Derived.Deep.Slices
import Derived.Deep.Fields
import Derived.ShutString
import Derived.Below
import Derived.Carry
/- match.Compile, match.Find: walked. -/
set_option linter.unusedVariables false
set_option linter.unusedSimpArgs false
namespace Go.Proofs.Ytdpmbanfaigmcaa
open Go.RowKit

def compE (s : Bs) : Int := match parseP s with | .error e => e | .ok t => sizeE t
def compL (s : Bs) : List St := match parseP s with | .error _ => [] | .ok t => makeL t
def compS (s : Bs) : Int := match parseP s with | .error _ => 0 | .ok t => makeS t
/-- match.Find: found?, steps, error. -/
def findF (s subj : Bs) : Bool × Int × Int := if compE s ≠ 0 then (false, 0, compE s) else hasF (compL s) (compS s) subj

/-- Two cells written. -/
theorem two_set {w1 W : World} {b : Nat} {u0 u1 : Value} (v0 v1 : Value) (h0 : w1.cell? ⟨b, 0, none⟩ = some u0) (h1 : w1.cell? ⟨b, 1, none⟩ = some u1) (hW : W = (w1.setCell ⟨b, 0, none⟩ v0).setCell ⟨b, 1, none⟩ v1) :
    W.cell? ⟨b, 0, none⟩ = some v0 ∧ W.cell? ⟨b, 1, none⟩ = some v1 ∧ W.heap.size = w1.heap.size ∧ (∀ k, k ≠ b → W.heap[k]? = w1.heap[k]?) ∧ ∀ B w, B ≤ b → Below B w w1 → Below B w W := by
  subst hW
  refine ⟨?_, World.cell?_setCell_same _ _ _ (by rw [World.cell?_setCell_other (h := by simp)]; exact h1), by simp, fun k hk => ?_, fun B w hB hb => (hb.setCell (by simpa using hB) _).setCell (by simpa using hB) _⟩
  · rw [World.cell?_setCell_other (h := by simp)]
    exact World.cell?_setCell_same _ _ _ h0
  · rw [Below.heap_setCell _ _ _ _ hk, Below.heap_setCell _ _ _ _ hk]
set_option maxRecDepth 100000 in
set_option maxHeartbeats 4000000 in
theorem comp_any (s : Bs) (w : World) (hB : 91 ∈ s → BrC) (hD : 46 ∈ s → DotC) :
    Calls Try.prog 56 #[.string (bs s)] w fun en w' => ∃ A c, en = .returned (.tuple #[nfaV (compL s) (compS s) A c, .int .i64 (compE s)]) ∧ w'.ownsRow w.heap.size 47 7 (.slice A (compL s).length c) (compL s).length (stCells (compL s)) ∧ Below w.heap.size w w' := by
  have HB := Lib.hid hB; have HD := Lib.hid hD; clear hB hD
  go_enter Try.func56, Try.ntmps56
  go_wp2_with fail
  generalize hW : w.alloc _ = W0
  have hB0 : Below w.heap.size w W0 := by subst hW; exact (Below.refl _ _).alloc (Nat.le_refl _) _
  have hz0 : w.heap.size < W0.heap.size := by subst hW; simp
  have P0 : At2 W0 w.heap.size (.slice none 0 0) 0 := by subst hW; constructor <;> simp [go_sem]
  have y0 : ∀ o, W0.frozen? ⟨w.heap.size, o, none⟩ = false := fun o => by subst hW; simp [go_sem]
  clear hW
  refine (parse_par s W0 HB.out HD.out).mono ?_
  rintro en w1 ⟨hb1, ⟨t, A, c, hp, rfl, hN⟩ | ⟨e, hp, he, rfl⟩⟩
  case inr =>
    have hz1 := hb1.size
    have P1 := P0.later hb1 hz0
    have y1 : ∀ o, w1.frozen? ⟨w.heap.size, o, none⟩ = false := fun o => (hb1.frozen (p := ⟨w.heap.size, o, none⟩) hz0).trans (y0 o)
    have hB1 := hB0.trans (hb1.mono (by omega))
    have hE : compE s = e := by unfold compE; rw [hp]
    have hL : compL s = [] := by unfold compL; rw [hp]
    have hS : compS s = 0 := by unfold compS; rw [hp]
    have HE := Lib.hid hE; have HL := Lib.hid hL; have HS := Lib.hid hS
    have heb : (e != 0) = true := by simpa using he
    obtain ⟨p0, p1⟩ := P1
    have q0 := y1 0; have q1 := y1 1
    have lq : w.heap.size < w1.heap.size := by omega
    clear hE hL hS hp he P0 y0 y1 hb1
    go_wp2_with fail
    generalize hW2 : (w1.setCell _ _).setCell _ _ = W2
    obtain ⟨r0, r1, hs2, hk2, hb2⟩ := two_set _ _ p0 p1 hW2.symm
    have hB2 := hb2 _ _ (Nat.le_refl _) hB1
    have lq2 : w.heap.size < W2.heap.size := by omega
    clear hW2 hk2
    have r0' := (((Below.refl W2.heap.size W2).alloc (Nat.le_refl _) (.cells #[.int .i64 none0.k, .int .u64 none0.s0, .int .u64 none0.s1, .int .u64 none0.s2, .int .u64 none0.s3, .int .i64 none0.mn, .int .i64 none0.mx, .slice none none0.ps.length 0] 27)).cell (p := ⟨w.heap.size, 0, none⟩) lq2).trans r0
    have r1' := (((Below.refl W2.heap.size W2).alloc (Nat.le_refl _) (.cells #[.int .i64 none0.k, .int .u64 none0.s0, .int .u64 none0.s1, .int .u64 none0.s2, .int .u64 none0.s3, .int .i64 none0.mn, .int .i64 none0.mx, .slice none none0.ps.length 0] 27)).cell (p := ⟨w.heap.size, 1, none⟩) lq2).trans r1
    have hB3 := hB2.trans (((Below.refl W2.heap.size W2).alloc (Nat.le_refl _) (.cells #[.int .i64 none0.k, .int .u64 none0.s0, .int .u64 none0.s1, .int .u64 none0.s2, .int .u64 none0.s3, .int .i64 none0.mn, .int .i64 none0.mx, .slice none none0.ps.length 0] 27)).mono (by omega))
    generalize hW3 : W2.alloc _ = W3 at *
    refine bodyPost_ret (v := .tuple #[.agg #[.slice none 0 0, .int .i64 0], .int .i64 e]) (by simp [results, Try.results56, r0', r1', go_sem]) rfl ⟨none, 0, by rw [HE.out, HL.out, HS.out]; rfl, ?_, hB3⟩
    rw [HL.out]; exact ⟨rfl, .inl ⟨rfl, rfl⟩⟩
  case inl =>
    have hz1 := hb1.size
    have P1 := P0.later hb1 hz0
    have y1 : ∀ o, w1.frozen? ⟨w.heap.size, o, none⟩ = false := fun o => (hb1.frozen (p := ⟨w.heap.size, o, none⟩) hz0).trans (y0 o)
    have hB1 := hB0.trans (hb1.mono (by omega))
    have hE : compE s = sizeE t := by unfold compE; rw [hp]
    have hL : compL s = makeL t := by unfold compL; rw [hp]
    have hS : compS s = makeS t := by unfold compS; rw [hp]
    have HE := Lib.hid hE; have HL := Lib.hid hL; have HS := Lib.hid hS
    have HN := Lib.hid hN
    have lq : w.heap.size < w1.heap.size := by omega
    clear hE hL hS hp P0 y0 hN
    go_wp2_with fail
    generalize hW2 : w1.alloc _ = W2
    have hb2 : Below w1.heap.size w1 W2 := by subst hW2; exact (Below.refl _ _).alloc (Nat.le_refl _) _
    have hN2 := HN.out.later hb2 (fun b hb => hb.2)
    have P2 := P1.later hb2 lq
    have y2 : ∀ o, W2.frozen? ⟨w.heap.size, o, none⟩ = false := fun o => (hb2.frozen (p := ⟨w.heap.size, o, none⟩) lq).trans (y1 o)
    have hz2 := hb2.size
    have hB2 := hB1.trans (hb2.mono (by omega))
    clear hW2 P1 y1
    refine (make_any t W2 _ A c hN2 (fun b hb => by omega)).mono ?_
    rintro en w3 ⟨v, rfl, ho3, hb3⟩
    obtain ⟨A3, c3, rfl⟩ := own_form ho3
    have P3 := P2.later hb3 (by omega)
    have y3 : ∀ o, w3.frozen? ⟨w.heap.size, o, none⟩ = false := fun o => (hb3.frozen (p := ⟨w.heap.size, o, none⟩) (by show w.heap.size < _; omega)).trans (y2 o)
    have hB3 := hB2.trans (hb3.mono (by omega))
    have hz3 := hb3.size
    obtain ⟨p0, p1⟩ := P3
    have q0 := y3 0; have q1 := y3 1
    have lq3 : w.heap.size < w3.heap.size := by omega
    have Ho3 := Lib.hid ho3
    clear P2 y2 y3 ho3 hN2
    go_wp2_with fail
    generalize hW4 : (w3.setCell _ _).setCell _ _ = W4
    obtain ⟨r0, r1, hs4, hk4, hb4⟩ := two_set _ _ p0 p1 hW4.symm
    have hB4 := hb4 _ _ (Nat.le_refl _) hB3
    have ho4 : W4.ownsRow W2.heap.size 47 7 (.slice A3 (makeL t).length c3) (makeL t).length (stCells (makeL t)) := by
      refine Ho3.out.kept (row := some w.heap.size) ⟨by subst hW4; rfl, by subst hW4; rfl, by subst hW4; rfl, by omega, fun k hk hne => hk4 k (by simpa using hne)⟩ (.inr fun e => ?_)
      have := (Ho3.out.lt _ e).1
      omega
    refine bodyPost_ret (v := .tuple #[.agg #[.slice A3 (makeL t).length c3, .int .i64 (makeS t)], .int .i64 (sizeE t)]) (by simp [results, Try.results56, r0, r1, go_sem]) rfl ⟨A3, c3, by rw [HE.out, HL.out, HS.out], ?_, hB4⟩
    rw [HL.out]
    exact ho4.mono (by omega)

theorem compL_le (s : Bs) : (compL s).length ≤ 4096 := by
  unfold compL
  split
  · simp
  · exact makeL_le _
set_option maxRecDepth 100000 in
set_option maxHeartbeats 4000000 in
theorem find_any (s subj : Bs) (w : World) (hB : 91 ∈ s → BrC) (hD : 46 ∈ s → DotC) :
    Calls Try.prog 37 #[.string (bs s), .string (bs subj)] w fun en w' => en = .returned (.tuple #[.bool (findF s subj).1, .int .i64 (findF s subj).2.1, .int .i64 (findF s subj).2.2]) ∧ Below w.heap.size w w' := by
  have HB := Lib.hid hB; have HD := Lib.hid hD; clear hB hD
  go_enter Try.func37, Try.ntmps37
  go_wp2_with fail
  refine (comp_any s w HB.out HD.out).mono ?_
  rintro en w1 ⟨A, c, rfl, ho1, hb1⟩
  have hl := compL_le s
  have Ho1 := Lib.hid ho1
  have hz1 := hb1.size
  clear ho1
  by_cases he : compE s = 0
  · have hres : findF s subj = hasF (compL s) (compS s) subj := by unfold findF; rw [if_neg (by simpa using he)]
    have Hres := Lib.hid hres
    have hb : (compE s != 0) = false := by rw [he]; rfl
    clear hres he
    go_wp2_with fail
    generalize hW2 : w1.alloc _ = W2
    have hb2 : Below w1.heap.size w1 W2 := by subst hW2; exact (Below.refl _ _).alloc (Nat.le_refl _) _
    have hz2 := hb2.size
    clear hW2
    refine (has_any W2 (fun b => b < W2.heap.size) (compL s) (compS s) A c (sts_all (own_later Ho1.out hb2) hl) (fun b h => h) subj).mono ?_
    rintro en w3 ⟨rfl, hb3⟩
    go_wp2_with fail
    exact bodyPost_ret (v := .tuple #[.bool (hasF (compL s) (compS s) subj).1, .int .i64 (hasF (compL s) (compS s) subj).2.1, .int .i64 (hasF (compL s) (compS s) subj).2.2]) (by simp [results, Try.results37, go_sem]) rfl ⟨by rw [Hres.out], hb1.trans ((hb2.mono hz1).trans (hb3.mono (by omega)))⟩
  · have hres : findF s subj = (false, 0, compE s) := by unfold findF; rw [if_pos he]
    have Hres := Lib.hid hres
    have hb : (compE s != 0) = true := by rw [bne_iff_ne]; exact he
    clear hres he
    go_wp2_with fail
    exact bodyPost_ret (v := .tuple #[.bool false, .int .i64 0, .int .i64 (compE s)]) (by simp [results, Try.results37, go_sem]) rfl ⟨by rw [Hres.out], hb1.alloc hz1 _⟩
end Go.Proofs.Ytdpmbanfaigmcaa

/- vouchlaw12.works: walked. -/
set_option linter.unusedVariables false
set_option linter.unusedSimpArgs false
namespace Go.Proofs.Ytdpmbanfaigmcaa
open Go.RowKit

theorem fw1 : findF [97, 36] [98, 97] = (true, 5, 0) := by kernel_rfl
theorem fw2 : findF [94, 97] [98, 97] = (false, 4, 0) := by kernel_rfl
theorem fw3 : (findF [40, 97, 98, 41, 43, 99] [120, 97, 98, 97, 98, 99]).1 = true := by kernel_rfl
theorem fw3' : (findF [40, 97, 98, 41, 43, 99] [120, 97, 98, 97, 98, 99]).2.2 = 0 := by kernel_rfl
theorem fw4 : (findF [97, 40] []).2.2 = 100 := by kernel_rfl
theorem fw5 : hasF [] 0 [] = (false, 0, 110) := by kernel_rfl
set_option maxRecDepth 100000 in
set_option maxHeartbeats 2000000 in
theorem works12_any (w : World) :
    Calls Try.prog 34 #[] w fun en w' => en = .returned (.bool true) ∧ Below w.heap.size w w' := by
  go_enter Try.func34, Try.ntmps34
  go_wp2_with fail
  refine (find_any [97, 36] [98, 97] w (by simp) (by simp)).mono ?_
  rintro en w1 ⟨rfl, hb1⟩
  have hz1 := hb1.size
  rw [fw1]
  go_wp2_with fail
  refine (find_any [94, 97] [98, 97] w1 (by simp) (by simp)).mono ?_
  rintro en w2 ⟨rfl, hb2⟩
  have hz2 := hb2.size
  rw [fw2]
  go_wp2_with fail
  refine (find_any [40, 97, 98, 41, 43, 99] [120, 97, 98, 97, 98, 99] w2 (by simp) (by simp)).mono ?_
  rintro en w3 ⟨rfl, hb3⟩
  have hz3 := hb3.size
  rw [fw3, fw3']
  go_wp2_with fail
  refine (find_any [97, 40] [] w3 (by simp) (by simp)).mono ?_
  rintro en w4 ⟨rfl, hb4⟩
  have hz4 := hb4.size
  rw [fw4]
  go_wp2_with fail
  refine (has_any w4 (fun b => b < w4.heap.size) [] 0 none 0 ⟨by simp, by simp, fun _ => rfl, fun h => by simp at h⟩ (fun b h => h) []).mono ?_
  rintro en w5 ⟨rfl, hb5⟩
  rw [fw5]
  go_wp2_with fail
  exact bodyPost_ret (v := .bool true) (by simp [results, Try.results34, go_sem]) rfl ⟨rfl, hb1.trans ((hb2.mono hz1).trans ((hb3.mono (by omega)).trans ((hb4.mono (by omega)).trans (hb5.mono (by omega)))))⟩
end Go.Proofs.Ytdpmbanfaigmcaa

/- The law MatchSteps: walked. -/
set_option linter.unusedVariables false
set_option linter.unusedSimpArgs false
namespace Go.Proofs.Ytdpmbanfaigmcaa
open Go.RowKit

theorem bs_app (a b : Bs) : bs a ++ bs b = bs (a ++ b) := by
  apply ByteArray.ext
  simp [bs]
theorem mul_le2 (a b : Nat) (ha : a ≤ 5000) (hb : b ≤ 2048) : 0 ≤ (a : Int) * (b : Int) ∧ (a : Int) * (b : Int) ≤ 10240000 := by
  have h1 : a * b ≤ 5000 * 2048 := Nat.mul_le_mul ha hb
  have e : (a : Int) * (b : Int) = ((a * b : Nat) : Int) := by push_cast; rfl
  rw [e]; omega
set_option maxRecDepth 100000 in
set_option maxHeartbeats 8000000 in
theorem msteps_any (w : World) (ok : Nat → Prop) (l : List St) (sa : Int) (A : Option Addr) (c : Nat) (ha : StsAt w ok l A c) (hok : ∀ b, ok b → b < w.heap.size) (subj : Bs) (hsl : subj.length ≤ maxLen) (more : Bs) (hml : more.length ≤ maxLen) :
    Calls Try.prog 10 #[nfaV l sa A c, .string (bs subj), .string (bs more)] w fun e w' => e = .returned (.bool true) ∧ Below w.heap.size w w' := by
  have hlen := ha.len
  unfold maxLen at hsl hml
  have hsz0 : (bs subj).size = subj.length := by simp [bs, ByteArray.size]
  have hsz1 : (bs more).size = more.length := by simp [bs, ByteArray.size]
  have hnew := ((Below.refl w.heap.size w).alloc (Nat.le_refl _) (.cells #[.slice A l.length c, .int .i64 sa] 35))
  by_cases hbig : 5000 < (l.length : Int)
  · go_enter Try.func10, Try.ntmps10
    go_wp2_with fail
    exact bodyPost_ret (v := .bool true) (by simp [results, Try.results10, go_sem]) rfl ⟨rfl, hnew⟩
  by_cases hbig2 : 1024 < (subj.length : Int)
  · go_enter Try.func10, Try.ntmps10
    go_wp2_with fail
    exact bodyPost_ret (v := .bool true) (by simp [results, Try.results10, go_sem]) rfl ⟨rfl, hnew⟩
  by_cases hbig4 : 1024 < (more.length : Int)
  · go_enter Try.func10, Try.ntmps10
    go_wp2_with fail
    exact bodyPost_ret (v := .bool true) (by simp [results, Try.results10, go_sem]) rfl ⟨rfl, hnew⟩
  obtain ⟨hm0, hm1⟩ := mul_le2 l.length (subj.length + more.length) (by omega) (by omega)
  rw [Int.natCast_add] at hm0 hm1
  by_cases hbig3 : 262144 < (l.length : Int) * ((subj.length : Int) + (more.length : Int))
  · go_enter Try.func10, Try.ntmps10
    go_wp2_with fail
    exact bodyPost_ret (v := .bool true) (by simp [results, Try.results10, go_sem]) rfl ⟨rfl, hnew⟩
  have HA := Lib.hid ha; have Hok := Lib.hid hok
  clear ha hok hnew
  go_enter Try.func10, Try.ntmps10
  go_wp2_with fail
  generalize hW : w.alloc _ = W0
  have hB0 : Below w.heap.size w W0 := by subst hW; exact ((Below.refl _ _).alloc (Nat.le_refl _) _)
  have hsz : w.heap.size < W0.heap.size := by subst hW; simp
  have P0 : At2 W0 w.heap.size (.slice A l.length c) sa := by subst hW; constructor <;> simp [go_sem]
  clear hW
  obtain ⟨p0, p1⟩ := id P0
  have hS0 := HA.out.later hB0 Hok.out
  have hok0 : ∀ b, ok b → b < W0.heap.size := fun b h => by have := Hok.out b h; omega
  have HS := Lib.hid hS0; have Hk0 := Lib.hid hok0; have HB0 := Lib.hid hB0
  clear hS0 hok0 hB0 HA Hok
  refine (has_any W0 ok l sa A c HS.out Hk0.out subj).mono ?_
  rintro en w2 ⟨rfl, hb2⟩
  have hz2 := hb2.size
  obtain ⟨p0, p1⟩ := P0.later hb2 hsz
  have HB2 := Lib.hid hb2
  clear hb2
  go_wp2_with fail
  refine (ncheck_any w2 ok l sa A c (HS.out.later HB2.out Hk0.out) (fun b h => by have := Hk0.out b h; omega)).mono ?_
  rintro en w3 ⟨rfl, hb3⟩
  have hB3 := HB2.out.trans (hb3.mono hz2)
  have hz3 := hB3.size
  obtain ⟨p0, p1⟩ := P0.later hB3 hsz
  have HB3 := Lib.hid hB3
  clear hB3 hb3 HB2
  by_cases hck : mcheck l sa = 0
  case' neg =>
    have h110 : mcheck l sa = 110 := by
      unfold mcheck at hck ⊢
      split
      · split
        · rename_i h1 h2; exact absurd (by rw [if_pos h1, if_pos h2]) hck
        · rfl
      · rfl
    have hres : hasF l sa subj = (false, 0, 110) := by unfold hasF; rw [if_pos hck, h110]
    rw [hres, h110]
    clear hres hck
    go_wp2_with fail
    refine (works12_any w3).mono ?_
    rintro en w6 ⟨rfl, hb6⟩
    go_wp2_with fail
    exact bodyPost_ret (v := .bool true) (by simp [results, Try.results10, go_sem]) rfl ⟨rfl, HB0.out.trans ((HB3.out.trans (hb6.mono hz3)).mono (by omega))⟩
  have hm := mok_of hck
  have hl0 : 0 < l.length := by have := hm.start; omega
  have h4 := hm.len
  have hres : hasF l sa subj = ((overF l sa subj (subj.length + 1) 0 [] 0).1, (overF l sa subj (subj.length + 1) 0 [] 0).2, 0) := by rw [hasF, if_neg (by simpa using hck), if_neg (by omega)]
  have hres2 : hasF l sa (subj ++ more) = ((overF l sa (subj ++ more) (subj.length + 1 + more.length) 0 [] 0).1, (overF l sa (subj ++ more) (subj.length + 1 + more.length) 0 [] 0).2, 0) := by
    rw [hasF, if_neg (by simpa using hck), if_neg (by simp; omega), List.length_append, show subj.length + more.length + 1 = subj.length + 1 + more.length by omega]
  obtain ⟨hb1, hb2⟩ := over_bd hm subj (subj.length + 1) 0 [] 0 (by simp)
  have hb2 := hb2 (by omega)
  have hmore := fun h => over_more (l := l) (sa := sa) h subj more (subj.length + 1) 0 [] 0 (by omega) (fun _ => rfl)
  obtain ⟨hn0, hn1⟩ := mul_le2 l.length (subj.length + 1) (by omega) (by omega)
  rw [Int.natCast_add, Int.natCast_one] at hn0 hn1
  have hb1' : (overF l sa subj (subj.length + 1) 0 [] 0).2 ≤ (l.length : Int) * ((subj.length : Int) + 1) := by
    rw [Int.natCast_add, Int.natCast_one, Int.mul_comm, Int.zero_add] at hb1
    exact hb1
  rw [hres, hck]
  have Hmore := Lib.hid hmore; have Hres2 := Lib.hid hres2; have HM := Lib.hid hm
  clear hmore hres2 hm hres hck hb1
  generalize overF l sa subj (subj.length + 1) 0 [] 0 = R at *
  generalize overF l sa (subj ++ more) (subj.length + 1 + more.length) 0 [] 0 = R' at *
  obtain ⟨R1, n⟩ := R
  obtain ⟨R1', n'⟩ := R'
  simp only at hb1' hb2
  have hb2 : 1 ≤ n := by omega
  go_wp2_with fail
  go_loopg [10] l.length (fun k v wr => ∃ i : Nat, v = .int .i64 (i : Int) ∧ i + k = l.length ∧ wr = w3 ∧ ∀ p, p < i → (stN l p).k ≠ 4)
  case atStart => exact ⟨0, rfl, by omega, rfl, fun p hp => by omega⟩
  case round =>
    obtain ⟨i, rfl, hi, rfl, hno⟩ := hrel
    have Hno := Lib.hid hno
    clear hno
    by_cases hlt : i < l.length
    case' pos =>
      obtain ⟨gm, om, rfl, hgm, hst7⟩ := (HS.out.later HB3.out Hk0.out).at_ hl0
      have hgl := Hk0.out gm hgm
      have f0 := (hst7 i hlt).f0
      have hsN : l[i] = stN l i := by unfold stN; rw [List.getD_eq_getElem?_getD, List.getElem?_eq_getElem hlt]; rfl
      rw [hsN] at f0
      have hcap := HS.out.cap
      clear hst7 hsN
      by_cases hk : (stN l i).k = 4
      case' pos =>
        rw [hk] at f0
        clear hk
        go_wp2_with fail
        refine (works12_any wr).mono ?_
        rintro en w6 ⟨rfl, hb6⟩
        go_wp2_with fail
        exact bodyPost_ret (v := .bool true) (by simp [results, Try.results10, go_sem]) rfl ⟨rfl, HB0.out.trans ((HB3.out.trans (hb6.mono hz3)).mono (by omega))⟩
      case' neg =>
        have hkb : ((stN l i).k == 4) = false := by simpa using hk
        have Hk := Lib.hid hk
        clear hk
        go_wp2_with fail
        go_roundg (gk - 1)
        case measure => omega
        case rel => exact ⟨i + 1, by go_num, by omega, rfl, fun p hp => by (by_cases e : p = i; (subst e; exact Hk.out); exact Hno.out p (by omega))⟩
    case' neg =>
      obtain ⟨hge, himp⟩ := Hmore.out (fun p hp => Hno.out p (by omega))
      try simp only at hge himp
      have hcat := bs_app subj more
      go_wp2_with fail
      refine (has_any wr ok l sa A c (HS.out.later HB3.out Hk0.out) (fun b h => by have := Hk0.out b h; omega) (subj ++ more)).mono ?_
      rintro en w6 ⟨rfl, hb6⟩
      rw [Hres2.out]
      have hz6 := hb6.size
      have hB6 := HB0.out.trans ((HB3.out.trans (hb6.mono hz3)).mono (by omega))
      cases R1 with
      | false =>
        clear himp
        go_wp2_with fail
        refine (works12_any w6).mono ?_
        rintro en w7 ⟨rfl, hb7⟩
        go_wp2_with fail
        exact bodyPost_ret (v := .bool true) (by simp [results, Try.results10, go_sem]) rfl ⟨rfl, hB6.trans (hb7.mono hB6.size)⟩
      | true =>
        obtain ⟨e1, e2⟩ := himp rfl
        clear himp
        subst e1; subst e2
        go_wp2_with fail
        refine (works12_any w6).mono ?_
        rintro en w7 ⟨rfl, hb7⟩
        go_wp2_with fail
        exact bodyPost_ret (v := .bool true) (by simp [results, Try.results10, go_sem]) rfl ⟨rfl, hB6.trans (hb7.mono hB6.size)⟩
end Go.Proofs.Ytdpmbanfaigmcaa

/- Sets of bytes as four words: which byte is in, of each way of making one. Plain. -/
set_option linter.unusedVariables false
set_option linter.unusedSimpArgs false
namespace Go.Proofs.Ytdpmbanfaigmcaa
open Go.RowKit

def In64 (x : Int) : Prop := 0 ≤ x ∧ x < 18446744073709551616
structure Wok (s : W4) : Prop where
  a : In64 s.a
  b : In64 s.b
  c : In64 s.c
  d : In64 s.d
def W4.at (s : W4) (c : Nat) : Int := if c < 64 then s.a else if c < 128 then s.b else if c < 192 then s.c else s.d
/-- Is a byte in a set? -/
def W4.has (s : W4) (c : Nat) : Bool := (s.at c).toNat.testBit (c % 64)
theorem Wok.at {s : W4} (h : Wok s) (c : Nat) : In64 (s.at c) := by
  unfold W4.at; split
  · exact h.a
  split
  · exact h.b
  split
  · exact h.c
  · exact h.d
theorem wok0 : Wok w40 := ⟨⟨by decide, by decide⟩, ⟨by decide, by decide⟩, ⟨by decide, by decide⟩, ⟨by decide, by decide⟩⟩
theorem has0 (c : Nat) : w40.has c = false := by
  have : w40.at c = 0 := by unfold W4.at w40; split <;> (try rfl); split <;> (try rfl); split <;> rfl
  unfold W4.has; rw [this]; simp
theorem pow_in {k : Nat} (h : k < 64) : In64 (2 ^ k) := by
  have h1 : (2 : Nat) ^ k < 2 ^ 64 := Nat.pow_lt_pow_right (by omega) h
  have e : ((2 : Int) ^ k) = ((2 ^ k : Nat) : Int) := by push_cast; rfl
  rw [e]
  generalize (2 : Nat) ^ k = p at *
  exact ⟨by omega, by omega⟩
theorem orI_eq {x y : Int} (hx : In64 x) (hy : In64 y) : orI x y = ((x.toNat ||| y.toNat : Nat) : Int) := u64_or x y hx.1 hx.2 hy.1 hy.2
theorem orI_in {x y : Int} (hx : In64 x) (hy : In64 y) : In64 (orI x y) := by
  rw [orI_eq hx hy]
  have : x.toNat ||| y.toNat < 2 ^ 64 := Nat.or_lt_two_pow (by have := hx.2; omega) (by have := hy.2; omega)
  exact ⟨by omega, by omega⟩
theorem orI_bit {x y : Int} (hx : In64 x) (hy : In64 y) (k : Nat) : (orI x y).toNat.testBit k = (x.toNat.testBit k || y.toNat.testBit k) := by
  rw [orI_eq hx hy, Int.toNat_natCast, Nat.testBit_or]
theorem pow_bit (k j : Nat) : ((2 : Int) ^ k).toNat.testBit j = decide (k = j) := by
  have e : ((2 : Int) ^ k) = ((2 ^ k : Nat) : Int) := by push_cast; rfl
  rw [e, Int.toNat_natCast, Nat.testBit_two_pow]
theorem notI_in {x : Int} (hx : In64 x) : In64 (notI x) := by unfold notI; have := hx.1; have := hx.2; exact ⟨by omega, by omega⟩
theorem notI_bit {x : Int} (hx : In64 x) (k : Nat) (hk : k < 64) : (notI x).toNat.testBit k = !x.toNat.testBit k := by
  have h0 := hx.1; have h1 := hx.2
  have e : (notI x).toNat = 2 ^ 64 - (x.toNat + 1) := by unfold notI; omega
  rw [e, Nat.testBit_two_pow_sub_succ (by omega)]
  simp [hk]
theorem word_ext {x y : Int} (hx : In64 x) (hy : In64 y) (h : ∀ k, k < 64 → x.toNat.testBit k = y.toNat.testBit k) : x = y := by
  have : x.toNat = y.toNat := by
    refine Nat.eq_of_testBit_eq fun k => ?_
    rcases Nat.lt_or_ge k 64 with hk | hk
    · exact h k hk
    · have h1 : x.toNat < 2 ^ k := Nat.lt_of_lt_of_le (by have := hx.2; omega) (Nat.pow_le_pow_right (n := 2) (by omega) hk)
      have h2 : y.toNat < 2 ^ k := Nat.lt_of_lt_of_le (by have := hy.2; omega) (Nat.pow_le_pow_right (n := 2) (by omega) hk)
      rw [Nat.testBit_lt_two_pow h1, Nat.testBit_lt_two_pow h2]
  have := hx.1; have := hy.1
  omega
/-- A set is what it has. -/
theorem W4.ext' {s t : W4} (hs : Wok s) (ht : Wok t) (h : ∀ c, c < 256 → s.has c = t.has c) : s = t := by
  obtain ⟨a, b, c, d⟩ := s
  obtain ⟨a', b', c', d'⟩ := t
  have e1 : a = a' := word_ext hs.a ht.a fun k hk => by
    have := h k (by omega)
    simpa [W4.has, W4.at, hk, Nat.mod_eq_of_lt hk] using this
  have e2 : b = b' := word_ext hs.b ht.b fun k hk => by
    have := h (64 + k) (by omega)
    simpa [W4.has, W4.at, show ¬ 64 + k < 64 by omega, show 64 + k < 128 by omega, show (64 + k) % 64 = k by omega, Nat.mod_eq_of_lt hk] using this
  have e3 : c = c' := word_ext hs.c ht.c fun k hk => by
    have := h (128 + k) (by omega)
    simpa [W4.has, W4.at, show ¬ 128 + k < 64 by omega, show ¬ 128 + k < 128 by omega, show 128 + k < 192 by omega, show (128 + k) % 64 = k by omega, Nat.mod_eq_of_lt hk] using this
  have e4 : d = d' := word_ext hs.d ht.d fun k hk => by
    have := h (192 + k) (by omega)
    simpa [W4.has, W4.at, show ¬ 192 + k < 64 by omega, show ¬ 192 + k < 128 by omega, show ¬ 192 + k < 192 by omega, show (192 + k) % 64 = k by omega, Nat.mod_eq_of_lt hk] using this
  subst e1; subst e2; subst e3; subst e4; rfl
theorem add_ok {s : W4} (h : Wok s) (c : Nat) (hc : c < 256) : Wok (s.add c) := by
  unfold W4.add
  split
  · exact ⟨orI_in h.a (pow_in (by omega)), h.b, h.c, h.d⟩
  split
  · exact ⟨h.a, orI_in h.b (pow_in (by omega)), h.c, h.d⟩
  split
  · exact ⟨h.a, h.b, orI_in h.c (pow_in (by omega)), h.d⟩
  · exact ⟨h.a, h.b, h.c, orI_in h.d (pow_in (by omega))⟩
theorem dec_iff {p q : Prop} [Decidable p] [Decidable q] (h : p ↔ q) : decide p = decide q := by simp [h]
theorem add_has {s : W4} (h : Wok s) (c x : Nat) (hc : c < 256) (hx : x < 256) : (s.add c).has x = (decide (x = c) || s.has x) := by
  unfold W4.add W4.has W4.at
  by_cases c1 : c < 64
  · rw [if_pos c1]
    by_cases x1 : x < 64
    · simp only [if_pos x1]
      rw [orI_bit h.a (pow_in (by omega)), pow_bit, Bool.or_comm, dec_iff (show c = x % 64 ↔ x = c by omega)]
    · simp only [if_neg x1]
      rw [show decide (x = c) = false by simp; omega, Bool.false_or]
  rw [if_neg c1]
  by_cases c2 : c < 128
  · rw [if_pos c2]
    by_cases x1 : x < 64
    · simp only [if_pos x1]
      rw [show decide (x = c) = false by simp; omega, Bool.false_or]
    by_cases x2 : x < 128
    · simp only [if_neg x1, if_pos x2]
      rw [orI_bit h.b (pow_in (by omega)), pow_bit, Bool.or_comm, dec_iff (show c - 64 = x % 64 ↔ x = c by omega)]
    · simp only [if_neg x1, if_neg x2]
      rw [show decide (x = c) = false by simp; omega, Bool.false_or]
  rw [if_neg c2]
  by_cases c3 : c < 192
  · rw [if_pos c3]
    by_cases x1 : x < 64
    · simp only [if_pos x1]
      rw [show decide (x = c) = false by simp; omega, Bool.false_or]
    by_cases x2 : x < 128
    · simp only [if_neg x1, if_pos x2]
      rw [show decide (x = c) = false by simp; omega, Bool.false_or]
    by_cases x3 : x < 192
    · simp only [if_neg x1, if_neg x2, if_pos x3]
      rw [orI_bit h.c (pow_in (by omega)), pow_bit, Bool.or_comm, dec_iff (show c - 128 = x % 64 ↔ x = c by omega)]
    · simp only [if_neg x1, if_neg x2, if_neg x3]
      rw [show decide (x = c) = false by simp; omega, Bool.false_or]
  · rw [if_neg c3]
    by_cases x1 : x < 64
    · simp only [if_pos x1]
      rw [show decide (x = c) = false by simp; omega, Bool.false_or]
    by_cases x2 : x < 128
    · simp only [if_neg x1, if_pos x2]
      rw [show decide (x = c) = false by simp; omega, Bool.false_or]
    by_cases x3 : x < 192
    · simp only [if_neg x1, if_neg x2, if_pos x3]
      rw [show decide (x = c) = false by simp; omega, Bool.false_or]
    · simp only [if_neg x1, if_neg x2, if_neg x3]
      rw [orI_bit h.d (pow_in (by omega)), pow_bit, Bool.or_comm, dec_iff (show c - 192 = x % 64 ↔ x = c by omega)]
theorem or_ok {s t : W4} (h : Wok s) (k : Wok t) : Wok (s.or t) := ⟨orI_in h.a k.a, orI_in h.b k.b, orI_in h.c k.c, orI_in h.d k.d⟩
theorem or_has {s t : W4} (h : Wok s) (k : Wok t) (x : Nat) : (s.or t).has x = (s.has x || t.has x) := by
  unfold W4.or W4.has W4.at
  by_cases x1 : x < 64
  · simp only [if_pos x1]; exact orI_bit h.a k.a _
  by_cases x2 : x < 128
  · simp only [if_neg x1, if_pos x2]; exact orI_bit h.b k.b _
  by_cases x3 : x < 192
  · simp only [if_neg x1, if_neg x2, if_pos x3]; exact orI_bit h.c k.c _
  · simp only [if_neg x1, if_neg x2, if_neg x3]; exact orI_bit h.d k.d _
theorem not_ok {s : W4} (h : Wok s) : Wok s.not := ⟨notI_in h.a, notI_in h.b, notI_in h.c, notI_in h.d⟩
theorem not_has {s : W4} (h : Wok s) (x : Nat) : s.not.has x = !s.has x := by
  unfold W4.not W4.has W4.at
  by_cases x1 : x < 64
  · simp only [if_pos x1]; exact notI_bit h.a _ (by omega)
  by_cases x2 : x < 128
  · simp only [if_neg x1, if_pos x2]; exact notI_bit h.b _ (by omega)
  by_cases x3 : x < 192
  · simp only [if_neg x1, if_neg x2, if_pos x3]; exact notI_bit h.c _ (by omega)
  · simp only [if_neg x1, if_neg x2, if_neg x3]; exact notI_bit h.d _ (by omega)
theorem adds_spec : ∀ (l : List Nat) {s : W4}, Wok s → (∀ c ∈ l, c < 256) → Wok (l.foldl W4.add s) ∧ ∀ x, x < 256 → (l.foldl W4.add s).has x = (s.has x || decide (x ∈ l))
  | [], s, h, _ => ⟨h, fun x _ => by simp⟩
  | c :: l, s, h, hl => by
    obtain ⟨h1, h2⟩ := adds_spec l (add_ok h c (hl c (List.mem_cons_self ..))) (fun x hx => hl x (List.mem_cons_of_mem _ hx))
    refine ⟨h1, fun x hx => ?_⟩
    rw [List.foldl_cons, h2 x hx, add_has h c x (hl c (List.mem_cons_self ..)) hx]
    simp only [List.mem_cons, Bool.decide_or]
    cases s.has x <;> simp
theorem span_spec {s : W4} (h : Wok s) (f n : Nat) (hn : f + n ≤ 256) : Wok (s.span f n) ∧ ∀ x, x < 256 → (s.span f n).has x = (s.has x || (decide (f ≤ x) && decide (x < f + n))) := by
  obtain ⟨h1, h2⟩ := adds_spec (List.range' f n) h (fun c hc => by simp at hc; omega)
  refine ⟨h1, fun x hx => ?_⟩
  rw [W4.span, h2 x hx, dec_iff (show x ∈ List.range' f n ↔ f ≤ x ∧ x < f + n by simp), Bool.decide_and]
def T.w4 (t : T) : W4 := ⟨t.s0, t.s1, t.s2, t.s3⟩
/-- What may stand in a node: its set's words are in range. -/
inductive Words : T → Prop where
  | mk (t : T) : Wok t.w4 → (∀ p ∈ t.ps, Words p) → Words t
theorem Words.w {t : T} (h : Words t) : Wok t.w4 := by cases h; assumption
theorem Words.p {t : T} (h : Words t) : ∀ p ∈ t.ps, Words p := by cases h; assumption
theorem in64_wf {n : Int} (h : (Lit.int .u64 n).wf = true) : In64 n := by
  simp [Lit.wf, IntKind.min, IntKind.max, IntKind.signed, IntKind.bits] at h
  exact ⟨h.1, by have := h.2; omega⟩
/-- The same bit, as the matcher asks for it. -/
theorem has_div {s : W4} (h : Wok s) (c : Nat) : s.has c = ((s.at c) / 2 ^ (c % 64) % 2 == 1) := by
  obtain ⟨h0, h1⟩ := h.at c
  unfold W4.has
  generalize s.at c = x at *
  obtain ⟨n, rfl⟩ : ∃ n : Nat, x = n := ⟨x.toNat, by omega⟩
  rw [Int.toNat_natCast, Nat.testBit_eq_decide_div_mod_eq]
  have e : ((n : Int) / 2 ^ (c % 64) % 2) = ((n / 2 ^ (c % 64) % 2 : Nat) : Int) := by push_cast; rfl
  rw [e, Bool.eq_iff_iff, decide_eq_true_eq, beq_iff_eq]
  omega
end Go.Proofs.Ytdpmbanfaigmcaa

/- Arguments opened: machines. -/
set_option linter.unusedVariables false
set_option linter.unusedSimpArgs false
namespace Go.Proofs.Ytdpmbanfaigmcaa
open Go.RowKit Go.ChangeShapes Go.WideShapes Go.Deep

theorem Try.cellsState : Try.prog.cellsOf 47 = 7 := by kernel_rfl
theorem Try.cellsSet : Try.prog.cellsOf 24 = 4 := by kernel_rfl
theorem Try.cellsInt : Try.prog.cellsOf 3 = 1 := by kernel_rfl
theorem Try.cellsU : Try.prog.cellsOf 22 = 1 := by kernel_rfl
theorem Try.cellsNfa : Try.prog.cellsOf 35 = 2 := by kernel_rfl
theorem Try.cellsSts : Try.prog.cellsOf 33 = 1 := by kernel_rfl
theorem Try.bytesState : Try.prog.bytesOf 47 = 56 := by kernel_rfl

theorem len2 {α : Type} {l : List α} (h : l.length = 2) : ∃ a b, l = [a, b] := by
  match l, h with
  | [a, b], _ => exact ⟨a, b, rfl⟩
theorem len4 {α : Type} {l : List α} (h : l.length = 4) : ∃ a b c d, l = [a, b, c, d] := by
  match l, h with
  | [a, b, c, d], _ => exact ⟨a, b, c, d, rfl⟩
theorem len7 {α : Type} {l : List α} (h : l.length = 7) : ∃ a b c d e f g, l = [a, b, c, d, e, f, g] := by
  match l, h with
  | [a, b, c, d, e, f, g], _ => exact ⟨a, b, c, d, e, f, g, rfl⟩
section
variable {H : Type} {enc : TypeId × Value → H} {P : Program} {tSt tSts tNfa tSet tI tU : TypeId} {w : World} {base : Nat} {spare : Nat → Bool} {held : Bool}
/-- What the program says of the types. -/
structure Types (P : Program) (tSt tSts tNfa tSet tI tU : TypeId) : Prop where
  set : P.underlying tSet = some (.array 4 tU)
  u : P.underlying tU = some (.int .u64)
  i : P.underlying tI = some (.int .i64)
  sts : P.underlying tSts = some (.slice tSt)
  st : ∃ f0 f1 f2 f3, P.underlying tSt = some (.struct #[f0, f1, f2, f3]) ∧ (f0.type = tI ∧ f0.offset = 0) ∧ (f1.type = tSet ∧ f1.offset = 1) ∧ (f2.type = tI ∧ f2.offset = 5) ∧ (f3.type = tI ∧ f3.offset = 6)
  nfa : ∃ f0 f1, P.underlying tNfa = some (.struct #[f0, f1]) ∧ (f0.type = tSts ∧ f0.offset = 0) ∧ (f1.type = tI ∧ f1.offset = 1)
  cSet : P.cellsOf tSet = 4
  cU : P.cellsOf tU = 1
  cI : P.cellsOf tI = 1
  cSts : P.cellsOf tSts = 1
  cSt : P.cellsOf tSt = 7
  cNfa : P.cellsOf tNfa = 2
  bSt : P.bytesOf tSt = 56
def WSt (s : St) : Prop := Wok ⟨s.s0, s.s1, s.s2, s.s3⟩
theorem open_set (K : Types P tSt tSts tNfa tSet tI tU) {fuel : Nat} {cs : List Value} {x : DataW H × List MemPlace} (h : DataW.trod enc P w base spare held fuel tSet cs = some x) :
    ∃ a b c d : Int, cs = [.int .u64 a, .int .u64 b, .int .u64 c, .int .u64 d] ∧ Wok ⟨a, b, c, d⟩ := by
  obtain ⟨xs, m, rfl, hx, hl, hxl, hi⟩ := DataW.trod_array K.set h
  rw [K.cSet] at hl
  rw [K.cU] at hi
  obtain ⟨c0, c1, c2, c3, rfl⟩ := len4 hl
  · clear h
    have g : ∀ (i : Nat) (v : Value), [c0, c1, c2, c3][i]? = some v → ∃ n, v = .int .u64 n ∧ In64 n := by
      intro i v hv
      have hi4 : i < 4 := (List.getElem?_eq_some_iff.1 hv).1
      have h1 := hi i hi4
      have hxi : xs[i]? = some (xs[i]'(by omega)) := List.getElem?_eq_getElem (by omega)
      rw [hxi] at h1
      obtain ⟨n, hn, _, hw⟩ := DataW.trod_int K.u h1
      refine ⟨n, ?_, in64_wf hw⟩
      have := congrArg (·[0]?) hn
      simpa [List.getElem?_take, List.getElem?_drop, hv] using this
    obtain ⟨a, rfl, ha⟩ := g 0 _ rfl
    obtain ⟨b, rfl, hb⟩ := g 1 _ rfl
    obtain ⟨c, rfl, hc⟩ := g 2 _ rfl
    obtain ⟨d, rfl, hd⟩ := g 3 _ rfl
    exact ⟨a, b, c, d, rfl, ha, hb, hc, hd⟩
theorem open_state (K : Types P tSt tSts tNfa tSet tI tU) {fuel : Nat} {cs : List Value} {x : DataW H × List MemPlace} (h : DataW.trod enc P w base spare held fuel tSt cs = some x) : ∃ s : St, cs = s.cells ∧ WSt s := by
  obtain ⟨f0, f1, f2, f3, hst, ⟨t0, o0⟩, ⟨t1, o1⟩, ⟨t2, o2⟩, t3, o3⟩ := K.st
  obtain ⟨xs, m, rfl, hx, hl, hxl, hi⟩ := DataW.trod_struct hst h
  rw [K.cSt] at hl
  have hxl4 : xs.length = 4 := hxl
  obtain ⟨c0, c1, c2, c3, c4, c5, c6, rfl⟩ := len7 hl
  · clear h
    have h0 := hi 0 f0 rfl
    have h1 := hi 1 f1 rfl
    have h2 := hi 2 f2 rfl
    have h3 := hi 3 f3 rfl
    rw [t0, o0, K.cI] at h0
    rw [t1, o1, K.cSet] at h1
    rw [t2, o2, K.cI] at h2
    rw [t3, o3, K.cI] at h3
    rw [List.getElem?_eq_getElem (by omega)] at h0 h1 h2 h3
    obtain ⟨k, hk, _⟩ := DataW.trod_int K.i h0
    obtain ⟨a, b, c, d, hs, hw⟩ := open_set K h1
    obtain ⟨nx, hn, _⟩ := DataW.trod_int K.i h2
    obtain ⟨ot, ho, _⟩ := DataW.trod_int K.i h3
    simp at hk hs hn ho
    obtain ⟨rfl, rfl, rfl, rfl⟩ := hs
    subst hk hn ho
    exact ⟨⟨k, a, b, c, d, nx, ot⟩, rfl, hw⟩
theorem open_nfaW (K : Types P tSt tSts tNfa tSet tI tU) {b0 : Nat} {v : Value} {d : DataW H} {p : List MemPlace} (hv : Value.okWide P w .any b0 tNfa v) (h : DataW.Trod enc P w base spare held tNfa v d p) (hz : ∀ n ∈ d.weights P tNfa, n ≤ reachBytes) :
    ∃ (l : List St) (sa : Int) (A : Option Addr) (c : Nat), v = nfaV l sa A c ∧ StsAt w (fun b => b < w.heap.size) l A c ∧ ∀ s ∈ l, WSt s := by
  obtain ⟨f0, f1, hst, ⟨t0, o0⟩, t1, o1⟩ := K.nfa
  obtain ⟨cs, rfl, hsz⟩ := okWide_struct hst hv
  rw [K.cNfa] at hsz
  obtain ⟨l⟩ := cs
  obtain ⟨c0, c1, rfl⟩ := len2 (l := l) hsz
  · clear hv
    obtain ⟨fuel, hf⟩ := h
    obtain ⟨xs, m, rfl, hx, hl, hxl, hi⟩ := DataW.trod_struct hst hf
    have hxl2 : xs.length = 2 := hxl
    have h0 := hi 0 f0 rfl
    have h1 := hi 1 f1 rfl
    rw [t0, o0, K.cSts] at h0
    rw [t1, o1, K.cI] at h1
    rw [List.getElem?_eq_getElem (by omega)] at h0 h1
    obtain ⟨sa, hs, _⟩ := DataW.trod_int K.i h1
    simp [Value.cells] at hs
    subst hs
    rcases open_slice K.sts h0 with ⟨hc, hx0⟩ | ⟨a, len, cap, mm, n, D, Pl, hc, hb, hlc, hcm, hmm, hx0, hel⟩
    · simp [Value.cells] at hc
      subst hc
      exact ⟨[], sa, none, 0, rfl, ⟨by simp, by simp, fun _ => rfl, fun h => by simp at h⟩, by simp⟩
    · simp [Value.cells] at hc
      subst hc
      have hlen : len ≤ 17592186044416 := by
        have := hz ((len + (mm - len)) * 56) (by
          have hd : d = .agg (xs.map (·.1)) := by have := congrArg Prod.fst hx; simpa using this
          rw [hd]
          obtain ⟨x0, x1, rfl⟩ := len2 hxl2
          · clear hf hi
            simp only [List.getElem_cons_zero] at hx0
            simp only [List.map_cons, List.map_nil, DataW.weights, hst, DataW.weightsEach, List.mem_append, t0, t1]
            left
            rw [hx0]
            simp [DataW.weights, K.sts, K.bSt])
        have h2 := reachBytes_lt
        omega
      have hlm : len ≤ mm := by rw [hmm]; split <;> omega
      rw [K.cSt] at hel
      have hst : ∀ i, i < len → ∃ s : St, (∀ j, j < 7 → w.cell? ((a.add (i * 7)).add j) = s.cells[j]?) ∧ WSt s := by
        intro i hi
        obtain ⟨cs', hcs, ht⟩ := hel i (by omega)
        obtain ⟨_, _, hat⟩ := World.cells?_some hcs
        obtain ⟨s, rfl, hw⟩ := open_state K ht
        exact ⟨s, hat, hw⟩
      let g : Nat → St := fun i => if h : i < len then Classical.choose (hst i h) else default
      have hg : ∀ i, i < len → ∀ j, j < 7 → w.cell? ((a.add (i * 7)).add j) = (g i).cells[j]? := fun i hi => by
        simp only [g, dif_pos hi]; exact (Classical.choose_spec (hst i hi)).1
      have hgw : ∀ i, i < len → WSt (g i) := fun i hi => by
        simp only [g, dif_pos hi]; exact (Classical.choose_spec (hst i hi)).2
      refine ⟨(List.range len).map g, sa, some a, cap, by simp [nfaV], ⟨by simpa using hlc, by simpa using hlen, fun e => by simp at e, fun hne => ?_⟩, fun s hs => by obtain ⟨i, hi, rfl⟩ := List.mem_map.1 hs; exact hgw i (List.mem_range.1 hi)⟩
      simp only [List.length_map, List.length_range] at hne
      obtain ⟨b, o, spot⟩ := a
      have hc0 := hg 0 hne 0 (by omega)
      have hspot : spot = none := by
        have := World.cell?_spot (v := .int .i64 (g 0).k) (by simpa [St.cells] using hc0)
        simpa [Addr.add] using this
      subst hspot
      refine ⟨b, o, rfl, ?_, fun i hi => .of fun j hj => ?_⟩
      · have : w.cell? ⟨b, o, none⟩ = some (.int .i64 (g 0).k) := by simpa [addr_add', St.cells] using hc0
        exact World.block_lt_of_cell? _ _ this
      · have := hg i (by simpa using hi) j hj
        simpa [addr_add'] using this
theorem open_nfa (K : Types P tSt tSts tNfa tSet tI tU) {b0 : Nat} {v : Value} {d : DataW H} {p : List MemPlace} (hv : Value.okWide P w .any b0 tNfa v) (h : DataW.Trod enc P w base spare held tNfa v d p) (hz : ∀ n ∈ d.weights P tNfa, n ≤ reachBytes) :
    ∃ (l : List St) (sa : Int) (A : Option Addr) (c : Nat), v = nfaV l sa A c ∧ StsAt w (fun b => b < w.heap.size) l A c := by
  obtain ⟨l, sa, A, c, h1, h2, _⟩ := open_nfaW K hv h hz
  exact ⟨l, sa, A, c, h1, h2⟩
end
theorem types_ok : Types Try.prog 47 33 35 24 3 22 :=
  ⟨Try.underlying24, Try.underlying22, Try.underlying3, Try.underlying33, ⟨_, _, _, _, Try.underlying47, ⟨rfl, rfl⟩, ⟨rfl, rfl⟩, ⟨rfl, rfl⟩, rfl, rfl⟩, ⟨_, _, Try.underlying35, ⟨rfl, rfl⟩, rfl, rfl⟩, Try.cellsSet, Try.cellsU, Try.cellsInt, Try.cellsSts, Try.cellsState, Try.cellsNfa, Try.bytesState⟩
end Go.Proofs.Ytdpmbanfaigmcaa

/- MatchSteps holds: whatever comes in, the call of the law returns true, and what came in reads as it read. -/
set_option linter.unusedVariables false
set_option linter.unusedSimpArgs false
namespace Go.Proofs.Ytdpmbanfaigmcaa
open Go.ChangeShapes Go.WideShapes Go.ChangeAt Go.RowKit
open Go.ChangeMaps (open_string shut_string)

theorem own : ownKnob Try.prog.godebug = none := by kernel_rfl
theorem laidOut : laidOutB Try.prog = true := by kernel_rfl
theorem str_bs (s : ByteArray) : ∃ r : Bs, s = bs r := ⟨s.data.toList, by simp [bs]⟩

set_option maxRecDepth 100000 in
theorem matchSteps_lifted (os : Os) (started : os.Started) (H : Type) (enc : TypeId × Value → H) :
    ReturnsInHanded {} Try.checked os 10 .any (Rows.matchStepsSpec.pre6 enc Try.prog Try.f10 Rows.matchStepsRow.domain false) (Rows.matchStepsSpec.post enc Try.prog Try.f10 false true false false) := by
  refine returnsInHanded_of_change_sized (C := Try.checked) own started (by kernel_rfl) Try.func10
    (ChangeSpec.witness6 (enc := enc) (C := Try.checked) false ⟨#[], #[.agg #[.slice none 0 0, .int .i64 0], .string ⟨#[]⟩, .string ⟨#[]⟩], []⟩ 8 (by kernel_rfl) (by kernel_rfl) (by kernel_rfl) (by kernel_rfl)) ?_
  intro W base args ds gs before hval0 hW hcnd hwz _
  have hval : ∀ (j : Nat) t v, Try.f10.params[j]? = some t → args[j]? = some v → Value.okWide Try.prog W .any base t v := hval0
  have hW' := hW
  obtain ⟨p, q, hA0, hV, rfl, hfz, hnd⟩ := hW
  have hA : DataW.TrodAll enc Try.prog W 0 (fun _ => true) true Try.f10.params.toList args.toList ds p := hA0
  have hwz' : (DataW.weightsEach Try.prog (Try.f10.params.toList ++ Rows.matchStepsSpec.plain.varTypes Try.prog) (ds ++ gs)).all (· ≤ reachBytes) = true := hwz
  rw [Try.params10] at hA hval hwz'
  obtain ⟨v0, vs0, d0, ds0, p0, q0, hargs, rfl, rfl, h0, r0⟩ := trodAll_cons hA
  obtain ⟨v1, vs1, d1, ds1, p1, q1, hargs1, rfl, rfl, h1, r1⟩ := trodAll_cons r0
  obtain ⟨v2, vs2, d2, ds2, p2, q2, hargs2, rfl, rfl, h2, r2⟩ := trodAll_cons r1
  obtain ⟨rfl, rfl, rfl⟩ := trodAll_nil r2
  subst hargs1
  subst hargs2
  obtain rfl : args = #[v0, v1, v2] := by cases args; simp_all
  obtain ⟨rfl, rfl⟩ := trodVars_none hV
  have k0 := h0
  have lt0 : ∀ x ∈ p0, x.block < W.heap.size := by obtain ⟨m, hm⟩ := k0; exact DataW.trod_lt m _ _ _ hm
  obtain ⟨l0, sa0, A0, c0, hv0, hst0, hws0⟩ := open_nfaW types_ok (hval 0 35 v0 rfl rfl) h0 (fun n hn => by
    have := List.all_eq_true.1 hwz' n (DataW.weights_mem_each (j := 0) (t := 35) (d := d0) rfl rfl n hn)
    simpa using this)
  have k1 := h1
  have lt1 : ∀ x ∈ p1, x.block < W.heap.size := by obtain ⟨m, hm⟩ := k1; exact DataW.trod_lt m _ _ _ hm
  obtain ⟨s1, hv1, _, _, hl1⟩ := open_string Try.underlying9 (hval 1 9 v1 rfl rfl) h1
  obtain ⟨b1, rfl⟩ := str_bs s1
  have hb1 : b1.length ≤ maxLen := by simpa [bs, ByteArray.size] using hl1
  have k2 := h2
  have lt2 : ∀ x ∈ p2, x.block < W.heap.size := by obtain ⟨m, hm⟩ := k2; exact DataW.trod_lt m _ _ _ hm
  obtain ⟨s2, hv2, _, _, hl2⟩ := open_string Try.underlying9 (hval 2 9 v2 rfl rfl) h2
  obtain ⟨b2, rfl⟩ := str_bs s2
  have hb2 : b2.length ≤ maxLen := by simpa [bs, ByteArray.size] using hl2
  clear hA0 hval0 hwz hwz'
  have hcall := msteps_any W (fun b => b < W.heap.size) l0 sa0 A0 c0 hst0 (fun b h => h) b1 hb1 b2 hb2
  rw [← hv0, ← hv1, ← hv2] at hcall
  refine hcall.mono fun e W' ⟨he, bel⟩ => ?_
  subst he
  exact ⟨_, rfl, _, _, _, [], _, [], hW', trodAll_mk1 (shut_bool Try.underlying4 _), (trodAll_cons_mk (Below.trod laidOut (by kernel_rfl) (of_decide_eq_true (by kernel_rfl)) k0 bel lt0) (trodAll_cons_mk (Below.trod laidOut (by kernel_rfl) (of_decide_eq_true (by kernel_rfl)) k1 bel lt1) (trodAll_cons_mk (Below.trod laidOut (by kernel_rfl) (of_decide_eq_true (by kernel_rfl)) k2 bel lt2) trodAll_mk0))), rfl, bel.frame _, fun h => by cases h⟩

theorem matchSteps_over : Rows.matchStepsRow.holds Try.pinned (OpenSpec.ofChange Rows.matchStepsSpec) :=
  OpenClaim.holds_of_wide 10 Try.f10 rfl rfl rfl rfl rfl rfl rfl ⟨rfl, rfl, rfl, rfl, rfl⟩ rfl rfl rfl rfl rfl (by kernel_rfl) Try.func10 (by kernel_rfl)
    (of_decide_eq_true (by kernel_rfl)) (by unfold Func.isWrapper; first | (rw [if_pos (by decide +kernel)]; kernel_rfl) | (rw [if_neg (by decide +kernel)]; exact ⟨rfl, rfl⟩))
    (fun os started H enc _ => matchSteps_lifted os started H enc)

/-- The statement. -/
theorem matchSteps_holds : Rows.MatchStepsSaid := matchSteps_over
end Go.Proofs.Ytdpmbanfaigmcaa

