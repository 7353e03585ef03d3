/- The walks of slices.Backward, at nodes and at ints. -/
import Derived.Test.YtdpmbanfaigmcaaVIdx
import Derived.BigFrameIn
set_option linter.unusedVariables false
set_option linter.unusedSimpArgs false
namespace Go.Proofs.Ytdpmbanfaigmcaa
open Go.RowKit Go.Shelf
attribute [local go_sem] Oper.semAt_some

/-- The cells of some blocks lie as they lay. -/
def KeepOn (S : Nat → Prop) (W W' : World) : Prop := ∀ b, S b → ∀ o, W'.cell? ⟨b, o, none⟩ = W.cell? ⟨b, o, none⟩
theorem KeepOn.trans {S : Nat → Prop} {A B C : World} (h : KeepOn S A B) (k : KeepOn S B C) : KeepOn S A C := fun b hb o => (k b hb o).trans (h b hb o)
theorem KeepOn.refl (S : Nat → Prop) (A : World) : KeepOn S A A := fun _ _ _ => rfl
theorem KeepOn.of_gb {S : Nat → Prop} {B : Nat} (hS : ∀ b, S b → b < B) {W W' : World} (hB : B ≤ W.heap.size) (h : GB B W W') : KeepOn S W W' := fun b hb o => by
  have hlt := hS b hb
  have h1 : W.heap[b]? = some W.heap[b] := Array.getElem?_eq_getElem (by omega)
  exact World.cell?_of_block (w := W) (a := ⟨b, o, none⟩) ((h.keep b _ h1 (.inl hlt)).trans h1.symm)

set_option maxRecDepth 100000 in
set_option maxHeartbeats 400000 in
theorem backN_any (w : World) (A : Option Addr) (n c : Nat) :
    Calls Try.prog 76 #[.slice A n c] w fun e w' => e = .returned (.func (.func 80) #[] #[.pointer (some ⟨w.heap.size, 0, none⟩)]) ∧ w' = w.alloc (.cells #[.slice A n c] 25) := by
  go_enter Try.func76, Try.ntmps76
  go_wp2_with fail
  go_ret
  exact ⟨rfl, rfl⟩

/-- What comes at round k, from behind. -/
def encN (ps : List T) (As : Nat → Option Addr) (cs : Nat → Nat) (k : Nat) : Array Value :=
  #[.int .i64 ((ps.length - 1 - k : Nat) : Int), nodeV (ps.getD (ps.length - 1 - k) default) (As (ps.length - 1 - k)) (cs (ps.length - 1 - k))]

set_option maxRecDepth 100000 in
set_option maxHeartbeats 2000000 in
theorem backN_seq (m l Bs b o c : Nat) (ps : List T) (As : Nat → Option Addr) (cs : Nat → Nat) (hlen : ps.length ≤ 17592186044416) (J : Nat → World → Prop) (W : World)
    (hc : W.cell? ⟨Bs, 0, none⟩ = some (.slice (some ⟨b, o, none⟩) ps.length c)) (he : ∀ i (hi : i < ps.length), At8 W b (o + i * 8) ps[i] (As i) (cs i))
    (hY : ∀ k W1, k < ps.length → J k W1 → YieldAt Fence.wide (m - 1) Try.prog l (encN ps As cs k) W1 fun e W' => e = .returned (.bool true) ∧ J (k + 1) W' ∧ KeepOn (fun x => x = b ∨ x = Bs) W1 W') (h0 : J 0 W) :
    CallsIn Fence.wide m Try.prog 80 #[.func (.yield l) #[] #[], .pointer (some ⟨Bs, 0, none⟩)] W fun e W' => (∃ v, e = .returned v) ∧ J ps.length W' := by
  refine callsIn_of_wp Try.func80 rfl trivial ?_ rfl
  simp only [Try.ntmps80, List.size_toArray, List.length_cons, List.length_nil, Nat.reduceAdd, Nat.reduceSub, Array.replicate_succ, Array.replicate_zero, List.push_toArray, List.append_toArray, List.nil_append, List.cons_append]
  gi_wp2
  gi_loopw [3] (fun i wr => ∃ (k : Nat) (j : Int), i = .int .i64 j ∧ j + 1 + k = ps.length ∧ -1 ≤ j ∧ J k wr ∧ KeepOn (fun x => x = b ∨ x = Bs) W wr)
    (fun i _ => (intOf i + 1).toNat)
  case atStart => exact ⟨0, (ps.length : Int) - 1, rfl, by omega, by omega, h0, KeepOn.refl _ _⟩
  case round =>
    obtain ⟨k, j, rfl, hj, hj1, hJ, hK⟩ := hrel
    have hcb := (hK Bs (.inr rfl) 0).trans hc
    by_cases hge : 0 ≤ j
    · obtain ⟨r, rfl⟩ := Int.eq_ofNat_of_zero_le hge
      have hr : r < ps.length := by omega
      obtain ⟨fn, tmps, assign, body, hy, hR⟩ := hY k wr (by omega) hJ
      have e : ps.length - 1 - k = r := by omega
      unfold encN at hy
      have hgd : ps.getD r default = ps[r] := by simp [List.getD_eq_getElem?_getD, hr]
      rw [e, hgd] at hy
      clear hgd
      obtain ⟨f0, f1, f2, f3, f4, f5, f6, f7⟩ := (he r hr).mono (w' := wr) (fun o => hK b (.inl rfl) o)
      generalize ps[r] = p at *
      clear he hY
      gi_wp2
      refine ⟨fun h => by simp [Fence.wide] at h, hR.mono ?_⟩
      rintro e W3 ⟨rfl, hJ3, hk3⟩
      gi_wp2
      go_roundw
      case rel => exact ⟨k + 1, (r : Int) - 1, rfl, by omega, by omega, hJ3, hK.trans hk3⟩
      case measure => simp [intOf]
    · obtain rfl : k = ps.length := by omega
      gi_wp2
      go_end0
      exact ⟨⟨_, rfl⟩, hJ⟩

set_option maxRecDepth 100000 in
set_option maxHeartbeats 400000 in
theorem backI_any (w : World) (A : Option Addr) (n c : Nat) :
    Calls Try.prog 77 #[.slice A n c] w fun e w' => e = .returned (.func (.func 81) #[] #[.pointer (some ⟨w.heap.size, 0, none⟩)]) ∧ w' = w.alloc (.cells #[.slice A n c] 71) := by
  go_enter Try.func77, Try.ntmps77
  go_wp2_with fail
  go_ret
  exact ⟨rfl, rfl⟩

/-- What comes at round k, from behind, of the first n of some ints. -/
def encI (xs : List Int) (n k : Nat) : Array Value :=
  #[.int .i64 ((n - 1 - k : Nat) : Int), .int .i64 (xs.getD (n - 1 - k) 0)]

set_option maxRecDepth 100000 in
set_option maxHeartbeats 2000000 in
theorem backI_seq (m l Bs b o c n : Nat) (xs : List Int) (hlen : n ≤ 17592186044416) (J : Nat → World → Prop) (W : World)
    (hc : W.cell? ⟨Bs, 0, none⟩ = some (.slice (some ⟨b, o, none⟩) n c)) (he : ∀ i, i < n → W.cell? ⟨b, o + i, none⟩ = some (.int .i64 (xs.getD i 0)))
    (hY : ∀ k W1, k < n → J k W1 → YieldAt Fence.wide (m - 1) Try.prog l (encI xs n k) W1 fun e W' => e = .returned (.bool true) ∧ J (k + 1) W' ∧ KeepOn (fun x => x = b ∨ x = Bs) W1 W') (h0 : J 0 W) :
    CallsIn Fence.wide m Try.prog 81 #[.func (.yield l) #[] #[], .pointer (some ⟨Bs, 0, none⟩)] W fun e W' => (∃ v, e = .returned v) ∧ J n W' := by
  refine callsIn_of_wp Try.func81 rfl trivial ?_ rfl
  simp only [Try.ntmps81, List.size_toArray, List.length_cons, List.length_nil, Nat.reduceAdd, Nat.reduceSub, Array.replicate_succ, Array.replicate_zero, List.push_toArray, List.append_toArray, List.nil_append, List.cons_append]
  gi_wp2
  gi_loopw [3] (fun i wr => ∃ (k : Nat) (j : Int), i = .int .i64 j ∧ j + 1 + k = n ∧ -1 ≤ j ∧ J k wr ∧ KeepOn (fun x => x = b ∨ x = Bs) W wr)
    (fun i _ => (intOf i + 1).toNat)
  case atStart => exact ⟨0, (n : Int) - 1, rfl, by omega, by omega, h0, KeepOn.refl _ _⟩
  case round =>
    obtain ⟨k, j, rfl, hj, hj1, hJ, hK⟩ := hrel
    have hcb := (hK Bs (.inr rfl) 0).trans hc
    by_cases hge : 0 ≤ j
    · obtain ⟨r, rfl⟩ := Int.eq_ofNat_of_zero_le hge
      have hr : r < n := by omega
      obtain ⟨fn, tmps, assign, body, hy, hR⟩ := hY k wr (by omega) hJ
      have e : n - 1 - k = r := by omega
      unfold encI at hy
      rw [e] at hy
      have f0 := (hK b (.inl rfl) (o + r)).trans (he r hr)
      generalize xs.getD r 0 = p at *
      clear he hY
      gi_wp2
      refine ⟨fun h => by simp [Fence.wide] at h, hR.mono ?_⟩
      rintro e W3 ⟨rfl, hJ3, hk3⟩
      gi_wp2
      go_roundw
      case rel => exact ⟨k + 1, (r : Int) - 1, rfl, by omega, by omega, hJ3, hK.trans hk3⟩
      case measure => simp [intOf]
    · obtain rfl : k = n := by omega
      gi_wp2
      go_end0
      exact ⟨⟨_, rfl⟩, hJ⟩
end Go.Proofs.Ytdpmbanfaigmcaa
