/- The row of IdentChecks: its closed facts, one by one, and the row: for every input the law returns true, and each argument reads behind the call as it read before. -/
import Derived.Test.YtdjmoojonkjafaaGreatHc
set_option linter.unusedSimpArgs false
set_option linter.unusedVariables false
set_option maxRecDepth 100000
set_option maxHeartbeats 2000000
namespace Go.Proofs.YtdjmoojonkjafaaGreat
open Go.AM Go.Proofs
attribute [local irreducible] Pu Br Gd Gd2 GdR Nb Cq Pp callF Jn StS StG Still loopW Ca Is
theorem identChecksFact0 : Rows.identChecksRow.wf (OpenSpec.ofChange Rows.identChecksSpec) = true := by kernel_rfl
theorem identChecksFact2 : mapsRowed Tryz.prog = true := by kernel_rfl
theorem identChecksFact3 : Tryz.f4.params.all (Tryz.prog.readableRec ·) = true := by kernel_rfl
theorem identChecksFact4 : namedTie Tryz.prog Rows.identChecksRow.named Rows.identChecksSpec.vars = true := by kernel_rfl
theorem identChecksFact5 : (Rows.identChecksRow.stops == []) = true := by kernel_rfl
theorem identChecksFact6 : (Tryz.prog.stops == []) = true := by kernel_rfl
theorem identChecksFact7 : (Rows.identChecksRow.knobs == []) = true := by kernel_rfl
theorem identChecksFact8 : (Tryz.prog.stopKnobs == []) = true := by kernel_rfl
theorem identChecksFact9 : (Rows.identChecksRow.inPlace == Tryz.prog.inPlace 4) = true := by kernel_rfl
theorem identChecksFact10 : (Rows.identChecksRow.unfollowed == Tryz.prog.unfollowed 4) = true := by kernel_rfl
theorem identChecksFact11 : (Rows.identChecksRow.recurses == Tryz.prog.recurses 4) = true := by kernel_rfl
theorem identChecksFact12 : (Rows.identChecksRow.named == Tryz.prog.varsNamed 4) = true := by kernel_rfl
theorem identChecksFact13 : (Rows.identChecksRow.maps == (Tryz.f4.params.toList ++ Rows.identChecksSpec.plain.varTypes Tryz.prog).any (Tryz.prog.mapsRec ·)) = true := by kernel_rfl
theorem identChecksFact14 : (Rows.identChecksRow.ifaces == (Tryz.f4.params.toList ++ Rows.identChecksSpec.plain.varTypes Tryz.prog).any (Tryz.prog.ifacesRec ·)) = true := by kernel_rfl
theorem identChecksFact15 : (Rows.identChecksRow.mapsOut == Tryz.prog.mapsAmong Tryz.f4.resultTypes.toList) = true := by kernel_rfl
theorem identChecksFact16 : (Rows.identChecksRow.loops == (Tryz.f4.params.toList ++ Rows.identChecksSpec.plain.varTypes Tryz.prog).any (Tryz.prog.loopsFrom ·)) = true := by kernel_rfl
theorem identChecksFact17 : (Rows.identChecksRow.wideKeys == (Tryz.f4.params.toList ++ Rows.identChecksSpec.plain.varTypes Tryz.prog ++ Tryz.f4.resultTypes.toList).any (Tryz.prog.wideKeysFrom ·)) = true := by kernel_rfl
theorem identChecksFact18 : Rows.identChecksSpec.vars.all (Tryz.prog.varReadable ·) = true := by kernel_rfl
theorem identChecksFact19 : Tryz.f4.resultTypes.all (fun t => Tryz.prog.readableRec t && decide (t < Tryz.prog.types.size)) = true := by kernel_rfl
theorem identChecksFact20 : (Rows.identChecksRow.ifacesOut == Tryz.f4.resultTypes.toList.any (Tryz.prog.ifacesRec ·)) = true := by kernel_rfl
theorem identChecksFact21 : (Rows.identChecksRow.loopsOut == Tryz.f4.resultTypes.toList.any (Tryz.prog.loopsFrom ·)) = true := by kernel_rfl
theorem identChecksFact22 : (Rows.identChecksRow.plainKeys == Tryz.prog.plainKeys) = true := by kernel_rfl
theorem identChecksFact23 : Rows.identChecksRow.shortTexts.isNone = true := by kernel_rfl
theorem identChecksFact24 : Tryz.prog.stopsHeard = true := by kernel_rfl
theorem identChecksFact25 : Tryz.prog.mayEnter = true := by kernel_rfl
theorem identChecksFact26 : (Rows.identChecksRow.lifted == Tryz.prog.liftsFinal) = true := by kernel_rfl
theorem identChecksFact27 : (Tryz.prog.make == some Rows.identChecksRow.make) = true := by kernel_rfl
theorem identChecksFact28 : (Rows.identChecksRow.kinds == (if Rows.identChecksRow.domain.isEmpty then [] else Tryz.f4.params.toList.map fun t => match Tryz.prog.underlying t with | some (.int k) => some k | _ => none)) = true := by kernel_rfl
theorem identChecksFact29 : (Rows.identChecksRow.pinned == Rows.identChecksRow.pinnedBy) = true := by kernel_rfl
theorem identChecksFact30 : (Rows.identChecksRow.veiled == (Tryz.f4.params.toList ++ Rows.identChecksSpec.plain.varTypes Tryz.prog ++ Tryz.f4.resultTypes.toList).any (Tryz.prog.veiledRec ·)) = true := by kernel_rfl
theorem identChecksFact31 : Rows.identChecksRow.veiledFits Tryz.prog Tryz.f4.params.toList (Tryz.f4.params.toList ++ Rows.identChecksSpec.plain.varTypes Tryz.prog ++ Tryz.f4.resultTypes.toList) = true := by kernel_rfl
theorem andT {a b : Bool} (h : a = true) (k : b = true) : (a && b) = true := by rw [h, k]; rfl
theorem identChecksClosed : joinedFacts Tryz.prog 4 Tryz.f4 Rows.identChecksSpec Rows.identChecksRow = true :=
  andT (andT (andT (andT (andT (andT (andT (andT (andT (andT (andT (andT (andT (andT (andT (andT (andT (andT (andT (andT (andT (andT (andT (andT (andT (andT (andT (andT (andT (andT (andT identChecksFact0 laidOut) identChecksFact2) identChecksFact3) identChecksFact4) identChecksFact5) identChecksFact6) identChecksFact7) identChecksFact8) identChecksFact9) identChecksFact10) identChecksFact11) identChecksFact12) identChecksFact13) identChecksFact14) identChecksFact15) identChecksFact16) identChecksFact17) identChecksFact18) identChecksFact19) identChecksFact20) identChecksFact21) identChecksFact22) identChecksFact23) identChecksFact24) identChecksFact25) identChecksFact26) identChecksFact27) identChecksFact28) identChecksFact29) identChecksFact30) identChecksFact31
theorem identChecksNamed : Tryz.prog.funcNamed Rows.identChecksRow.func = some 4 := by kernel_rfl
theorem identChecksInst : Tryz.f4.isInstance Tryz.prog Rows.identChecksRow.origin Rows.identChecksRow.targs := of_decide_eq_true (by kernel_rfl)
theorem identChecksWrap : Tryz.f4.isWrapper Tryz.prog Rows.identChecksRow.wrapper Rows.identChecksRow.mainSum := by unfold Func.isWrapper; first | (rw [if_pos (by decide +kernel)]; kernel_rfl) | (rw [if_neg (by decide +kernel)]; exact ⟨rfl, rfl⟩)
/-- the row -/
theorem identChecks_holds : Rows.IdentChecksSaid :=
  OpenClaim.holds_of_wide 4 Tryz.f4 rfl rfl rfl rfl rfl rfl rfl ⟨rfl, rfl, rfl, rfl, rfl⟩ rfl rfl rfl rfl rfl identChecksNamed Tryz.func4 identChecksClosed identChecksInst identChecksWrap
    (fun os started H enc _ => identChecks_lifted os started H enc)
#print axioms identChecks_holds
end Go.Proofs.YtdjmoojonkjafaaGreat
