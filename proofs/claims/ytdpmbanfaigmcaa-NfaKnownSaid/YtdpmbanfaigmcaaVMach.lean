/- Machines in memory; two machines compared. -/
import Derived.Test.YtdpmbanfaigmcaaVLayer
import Derived.Deep.QuietTactic
import Derived.BigQuiet
set_option linter.unusedVariables false
set_option linter.unusedSimpArgs false
namespace Go.Proofs.Ytdpmbanfaigmcaa
open Go.RowKit

deriving instance DecidableEq for St
def eqSt (a b : St) : Bool := a.k == b.k && eq4 a.s0 a.s1 a.s2 a.s3 b.s0 b.s1 b.s2 b.s3 && a.nx == b.nx && a.ot == b.ot
theorem eqSt_iff {a b : St} : eqSt a b = true ↔ a = b := by
  cases a; cases b
  simp [eqSt, eq4, and_assoc]
theorem eqSt_false {a b : St} (h : a ≠ b) : eqSt a b = false := by rw [Bool.eq_false_iff]; exact fun e => h (eqSt_iff.1 e)

theorem run_eqSt (w : World) (d : Nat) (a0 a1 a2 a3 a4 a5 a6 b0 b1 b2 b3 b4 b5 b6 : Int) :
    (Op.equalIn (d + 3) 47 (.agg #[.int .i64 a0, .int .u64 a1, .int .u64 a2, .int .u64 a3, .int .u64 a4, .int .i64 a5, .int .i64 a6]) (.agg #[.int .i64 b0, .int .u64 b1, .int .u64 b2, .int .u64 b3, .int .u64 b4, .int .i64 b5, .int .i64 b6])).run Try.prog w = .ok (a0 == b0 && eq4 a1 a2 a3 a4 b1 b2 b3 b4 && a5 == b5 && a6 == b6) w := by
  rw [Op.equalIn]
  simp only [Sem.run_bind, run_underlying Try.underlying47, Result.andThen_ok]
  simp [go_sem, List.range']
  by_cases h0 : a0 = b0 <;> cases h1 : eq4 a1 a2 a3 a4 b1 b2 b3 b4 <;> by_cases h2 : a5 = b5 <;> by_cases h3 : a6 = b6 <;> simp [h0, h2, h3]
@[go_sem high] theorem run_neqSt (w : World) (a0 a1 a2 a3 a4 a5 a6 b0 b1 b2 b3 b4 b5 b6 : Int) :
    (binOp .neq 47 (.agg #[.int .i64 a0, .int .u64 a1, .int .u64 a2, .int .u64 a3, .int .u64 a4, .int .i64 a5, .int .i64 a6]) (.agg #[.int .i64 b0, .int .u64 b1, .int .u64 b2, .int .u64 b3, .int .u64 b4, .int .i64 b5, .int .i64 b6])).run Try.prog w = .ok (.bool (!(eqSt ⟨a0, a1, a2, a3, a4, a5, a6⟩ ⟨b0, b1, b2, b3, b4, b5, b6⟩))) w := by
  rw [run_neq_struct, run_eqSt _ 9997]; rfl
/-- A state's seven cells from a place on. -/
structure St7 (w : World) (b o : Nat) (s : St) : Prop where
  f0 : w.cell? ⟨b, o, none⟩ = some (.int .i64 s.k)
  f1 : w.cell? ⟨b, o + 1, none⟩ = some (.int .u64 s.s0)
  f2 : w.cell? ⟨b, o + 2, none⟩ = some (.int .u64 s.s1)
  f3 : w.cell? ⟨b, o + 3, none⟩ = some (.int .u64 s.s2)
  f4 : w.cell? ⟨b, o + 4, none⟩ = some (.int .u64 s.s3)
  f5 : w.cell? ⟨b, o + 5, none⟩ = some (.int .i64 s.nx)
  f6 : w.cell? ⟨b, o + 6, none⟩ = some (.int .i64 s.ot)
theorem St7.mono {w w' : World} {b o : Nat} {s : St} (h : St7 w b o s) (hk : ∀ o, w'.cell? ⟨b, o, none⟩ = w.cell? ⟨b, o, none⟩) : St7 w' b o s :=
  ⟨(hk _).trans h.f0, (hk _).trans h.f1, (hk _).trans h.f2, (hk _).trans h.f3, (hk _).trans h.f4, (hk _).trans h.f5, (hk _).trans h.f6⟩
theorem addr_add' (b o j : Nat) : (⟨b, o, none⟩ : Addr).add j = ⟨b, o + j, none⟩ := by unfold Addr.add; split <;> simp_all
theorem St7.of {w : World} {b o : Nat} {s : St} (h : ∀ j, j < 7 → w.cell? ⟨b, o + j, none⟩ = s.cells[j]?) : St7 w b o s :=
  ⟨h 0 (by omega), h 1 (by omega), h 2 (by omega), h 3 (by omega), h 4 (by omega), h 5 (by omega), h 6 (by omega)⟩
/-- A list of states reads at A; each block that is read satisfies ok. -/
structure StsAt (w : World) (ok : Nat → Prop) (l : List St) (A : Option Addr) (c : Nat) : Prop where
  cap : l.length ≤ c
  len : l.length ≤ 17592186044416
  nil : A = none → c = 0
  at_ : 0 < l.length → ∃ b o, A = some ⟨b, o, none⟩ ∧ ok b ∧ ∀ i (hi : i < l.length), St7 w b (o + i * 7) l[i]
theorem StsAt.mono {w w' : World} {ok ok' : Nat → Prop} {l : List St} {A : Option Addr} {c : Nat} (h : StsAt w ok l A c) (hk : ∀ b, ok b → ok' b ∧ ∀ o, w'.cell? ⟨b, o, none⟩ = w.cell? ⟨b, o, none⟩) : StsAt w' ok' l A c :=
  ⟨h.cap, h.len, h.nil, fun hne => by
    obtain ⟨b, o, e, hb, hc⟩ := h.at_ hne
    exact ⟨b, o, e, (hk b hb).1, fun i hi => (hc i hi).mono (hk b hb).2⟩⟩
theorem StsAt.later {w w' : World} {ok : Nat → Prop} {B : Nat} {l : List St} {A : Option Addr} {c : Nat} (h : StsAt w ok l A c) (hb : Below B w w') (hok : ∀ b, ok b → b < B) : StsAt w' ok l A c :=
  h.mono fun b hk => ⟨hk, fun _ => hb.cell (p := ⟨b, _, none⟩) (hok b hk)⟩
abbrev nfaV (l : List St) (s : Int) (A : Option Addr) (c : Nat) : Value := .agg #[.slice A l.length c, .int .i64 s]

end Go.Proofs.Ytdpmbanfaigmcaa
