/- PatternTells holds: whatever comes in, the call of the law returns true, and what came in reads as it read; the listed variables tied to the text of the program. -/
import Derived.Test.YteekafkpeimhoaaDoorUTellsA
import Derived.Test.YteekafkpeimhoaaDoorUTellsB
import Derived.Test.YteekafkpeimhoaaDoorUTellsC
import Derived.Test.YteekafkpeimhoaaDoorUTellsD
import Derived.Test.YteekafkpeimhoaaDoorCards
import Derived.Test.YteekafkpeimhoaaDoorTie
import Derived.SevenTiedAt
import Derived.ShutString
import Derived.Below
import Derived.Carry
/- PatternTells holds: whatever comes in, the call of the law returns true, and what came in reads as it read; the listed variables tied tu the text of the program. -/
set_option linter.unusedVariables false
set_option linter.unusedSimpArgs false
namespace Go.Proofs.YteekafkpeimhoaaDoor
open Go.ChangeShapes Go.WideShapes Go.ChangeAt Go.RowKit
open Go.ChangeMaps (open_string shut_string)

theorem own : ownKnob Tryd.prog.godebug = none := by kernel_rfl
theorem laidOut : laidOutB Tryd.prog = true := by kernel_rfl
theorem str_bs (s : ByteArray) : ∃ r : Bs, s = bs r := ⟨s.data.toList, by simp [bs]⟩

set_option maxRecDepth 100000 in
theorem patternTells_lifted (os : Os) (started : os.Started) (H : Type) (enc : TypeId × Value → H) :
    ReturnsInHanded {} Tryd.checked os 4 .any (fun w args => (Rows.patternTellsSpec.pre enc Tryd.prog Tryd.f4 Rows.patternTellsRow.domain false w args ∧ laidMetH Tryd.prog laid3 w) ∧ sizedMet enc Tryd.prog Tryd.f4 (OpenSpec.ofChange Rows.patternTellsSpec) false w args) (Rows.patternTellsSpec.post enc Tryd.prog Tryd.f4 false true false false) := by
  refine handed_laid (C := Tryd.checked) (X := fun w => laidMetH Tryd.prog laid3 w) (fun _ _ hh h => h.of_heap hh) own started (by kernel_rfl) Tryd.func4
    (ChangeSpec.witness_shaped (enc := enc) (C := Tryd.checked) (os := os) (X := fun w _ => laidMetH Tryd.prog laid3 w) false (World.laidAll Tryd.prog os laid3) #[.agg #[.int .i64 0, .int .u64 0, .int .u64 0, .int .u64 0, .int .u64 0, .int .i64 0, .int .i64 0, .slice none 0 0]] 8 (World.laidAll_os _ _ _) (laid_shaped os _) (by kernel_rfl) (by kernel_rfl) (by kernel_rfl) (laid_start os _)) ?_
  intro W args ds gs before base hval0 hW hwz hL hsh
  have hM : MaxOk W := Tryd.laysM219.s1_3 W hsh
  have hT : TabIn W.heap.size W := tab_of_laid hL
  have hval : ∀ (j : Nat) t v, Tryd.f4.params[j]? = some t → args[j]? = some v → Value.okWide Tryd.prog W .any base t v := hval0
  have hW' := hW
  obtain ⟨p, q, hA0, hV, rfl, hfz, hnd⟩ := hW
  have hA : DataW.TrodAll enc Tryd.prog W 0 (fun _ => true) true Tryd.f4.params.toList args.toList ds p := hA0
  have hwz' : (DataW.weightsEach Tryd.prog (Tryd.f4.params.toList ++ Rows.patternTellsSpec.plain.varTypes Tryd.prog) (ds ++ gs)).all (· ≤ reachBytes) = true := hwz
  rw [Tryd.params4] at hA hval hwz'
  obtain ⟨v0, vs0, d0, ds0, p0, q0, hargs, rfl, rfl, h0, r0⟩ := trodAll_cons hA
  obtain ⟨rfl, rfl, rfl⟩ := trodAll_nil r0
  obtain rfl : args = #[v0] := by cases args; simp_all
  obtain ⟨rfl, rfl⟩ := trodVars_none hV
  have k0 := h0
  have lt0 : ∀ x ∈ p0, x.block < W.heap.size := by obtain ⟨m, hm⟩ := k0; exact DataW.trod_lt m _ _ _ hm
  obtain ⟨t0, A0, c0, hv0, hst0, hws0⟩ := open_treeW types_ok typesT_ok (hval 0 27 v0 rfl rfl) h0 (fun n hn => by
    have := List.all_eq_true.1 hwz' n (DataW.weights_mem_each (j := 0) (t := 27) (d := d0) rfl rfl n hn)
    simpa using this)
  clear hA0 hval0 hwz hwz'
  have hcall := ptells_any W hM hT t0 (fun b => b < W.heap.size) A0 c0 hst0 (fun b h => h) hws0
  rw [← hv0] at hcall
  refine hcall.mono fun e W' ⟨he, bel⟩ => ?_
  subst he
  exact ⟨_, rfl, _, _, _, [], _, [], hW', trodAll_mk1 (shut_bool Tryd.underlying4 _), (trodAll_cons_mk (Below.trod laidOut (by kernel_rfl) (of_decide_eq_true (by kernel_rfl)) k0 bel lt0) trodAll_mk0), rfl, bel.frame _, fun h => by cases h⟩

theorem patternTells_over : Rows.patternTellsRow.holds Tryd.pinned (OpenSpec.ofChange Rows.patternTellsSpec) :=
  OpenClaim.holds_of_wide 4 Tryd.f4 rfl rfl rfl rfl rfl rfl rfl ⟨rfl, rfl, rfl, rfl, rfl⟩ rfl rfl rfl rfl rfl (by kernel_rfl) Tryd.func4 (by kernel_rfl)
    (of_decide_eq_true (by kernel_rfl)) (by unfold Func.isWrapper; first | (rw [if_pos (by decide +kernel)]; kernel_rfl) | (rw [if_neg (by decide +kernel)]; exact ⟨rfl, rfl⟩))
    (fun os started H enc _ => patternTells_lifted os started H enc)

/-- The statement: the card. -/
theorem patternTells_holds : Rows.PatternTellsCardSaid :=
  Claim7.holds_tied_plain_at .later [] [.data, .data, .data] true (true, "993200cfe7f0d20b09c643adc204290b95db44b2b63a937d6513bec5161ede20") false
    patternTells_over (fun _ h => by cases h) (by kernel_rfl) (fun _ h => by cases h) patternTells_row_tie rfl ⟨rfl, rfl⟩ (by kernel_rfl) rfl
    (fun f fn hf hfn => by
      obtain rfl : f = 4 := Option.some.inj ((show Tryd.prog.funcNamed "vouch/vouchlaw10.PatternTells" = some 4 by kernel_rfl).symm.trans hf) |>.symm
      obtain rfl : fn = Tryd.f4 := (Option.some.inj (Tryd.func4.symm.trans hfn)).symm
      exact ⟨by kernel_rfl, fun j t ht => by
        rw [Tryd.params4] at ht
        have h3 : t ∈ [27] := by
          rcases j with _ | j
          · simp at ht; subst ht; simp
          · simp at ht
        simp only [List.mem_cons, List.not_mem_nil, or_false] at h3
        rcases h3 with rfl
        all_goals first | exact (show Tryd.prog.wantsStandIn 27 = false by kernel_rfl)⟩)
    (by kernel_rfl)
end Go.Proofs.YteekafkpeimhoaaDoor

