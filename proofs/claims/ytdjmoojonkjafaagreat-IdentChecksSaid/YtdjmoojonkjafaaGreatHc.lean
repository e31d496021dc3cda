/- The row of IdentChecks: for every input the law returns true, and each argument reads behind the call as it read before. -/
import Derived.Test.YtdjmoojonkjafaaGreatHa
import Derived.Test.YtdjmoojonkjafaaGreatRows
set_option linter.unusedSimpArgs false
set_option linter.unusedVariables false
set_option maxRecDepth 100000
set_option maxHeartbeats 2000000
namespace Go.Proofs.YtdjmoojonkjafaaGreat
open Go.AM Go.Proofs
attribute [local irreducible] Pu Br Gd Gd2 GdR Nb Cq Pp callF Jn StS StG Still loopW Ca Is
open Go.ChangeShapes Go.WideShapes Go.RowKit

theorem params4 : Tryz.f4.params = #[23, 23, 78] := by kernel_rfl

/-- a call of three arguments that ends in true: what stands behind it -/
theorem law_run {f : FuncId} {W : World} {v0 v1 v2 : Value} {a0 a1 a2 : AV} (h0 : V (envOf W) a0 v0) (h1 : V (envOf W) a1 v1) (h2 : V (envOf W) a2 v2)
    (h : Ca Tryz.prog kp f [a0, a1, a2] AHeap.empty (fun v _ => v = .bool true)) : Calls Tryz.prog f #[v0, v1, v2] W fun e W' => e = .returned (.bool true) ∧ Below W.heap.size W W' := by
  unfold Ca at h
  obtain ⟨v, H', hb, rfl⟩ := h
  have := hb.calls fit (rel_empty W) (vs := [v0, v1, v2]) (by simp only [VL_cons_cons]; exact ⟨h0, h1, h2, by simp⟩)
  refine this.mono fun e W' ⟨u, E', he, hu, hs⟩ => ?_
  rw [V_bool] at hu
  subst hu
  exact ⟨he, hs.below⟩

theorem identChecks_lifted (os : Os) (started : os.Started) (H : Type) (enc : TypeId × Value → H) :
    ReturnsInHanded {} Tryz.checked os 4 .any (Rows.identChecksSpec.pre6 enc Tryz.prog Tryz.f4 Rows.identChecksRow.domain false) (Rows.identChecksSpec.post enc Tryz.prog Tryz.f4 false true false false) := by
  refine returnsInHanded_of_change_sized (C := Tryz.checked) ownKnobs started (by kernel_rfl) Tryz.func4
    (ChangeSpec.witness6 (enc := enc) (C := Tryz.checked) false ⟨#[], #[.agg #[.int .i64 0, .int .i64 0, .int .i64 0, .int .i64 0, .int .i64 0, .int .i64 0, .int .i64 0], .agg #[.int .i64 0, .int .i64 0, .int .i64 0, .int .i64 0, .int .i64 0, .int .i64 0, .int .i64 0], .agg #[.slice Option.none 0 0, .slice Option.none 0 0, .slice Option.none 0 0, .int .i64 0, .slice Option.none 0 0, .slice Option.none 0 0, .int .i64 0]], []⟩ 8 (by kernel_rfl) (by kernel_rfl) (by kernel_rfl) (by kernel_rfl)) ?_
  intro W base args ds gs before hval0 hW hcnd hsz0 _
  have hval : ∀ (j : Nat) t v, Tryz.f4.params[j]? = some t → args[j]? = some v → Value.okWide Tryz.prog W .any base t v := hval0
  have hW' := hW
  obtain ⟨p, q, hA0, hV, rfl, hfz, hnd⟩ := hW
  have hA : DataW.TrodAll enc Tryz.prog W 0 (fun _ => true) true Tryz.f4.params.toList args.toList ds p := hA0
  rw [params4] at hA hval
  obtain ⟨v0, vs0, d0, ds0, p0, q0, hargs, rfl, rfl, h0, r0⟩ := trodAll_cons hA
  obtain ⟨v1, vs1, d1, ds1, p1, q1, rfl, rfl, rfl, h1, r1⟩ := trodAll_cons r0
  obtain ⟨v2, vs2, d2, ds2, p2, q2, rfl, rfl, rfl, h2, r2⟩ := trodAll_cons r1
  obtain ⟨rfl, rfl, rfl⟩ := trodAll_nil r2
  obtain rfl : args = #[v0, v1, v2] := by cases args; simp_all
  obtain ⟨rfl, rfl⟩ := trodVars_none hV
  obtain ⟨a0, e0, t0⟩ := arg_of plain23 h0 (hval 0 23 v0 rfl rfl)
  obtain ⟨a1, e1, t1⟩ := arg_of plain23 h1 (hval 1 23 v1 rfl rfl)
  obtain ⟨a2, e2, t2⟩ := arg_of plain78 h2 (hval 2 78 v2 rfl rfl)
  obtain ⟨g, rfl⟩ := typ_geom t0
  obtain ⟨o, rfl⟩ := typ_geom t1
  obtain ⟨s, b, l1, l2, l3, l4, l5, rfl, hs⟩ := typ_case t2
  have lt0 : ∀ x ∈ p0, x.block < W.heap.size := by obtain ⟨m, hm⟩ := h0; exact DataW.trod_lt m _ _ _ hm
  have lt1 : ∀ x ∈ p1, x.block < W.heap.size := by obtain ⟨m, hm⟩ := h1; exact DataW.trod_lt m _ _ _ hm
  have lt2 : ∀ x ∈ p2, x.block < W.heap.size := by obtain ⟨m, hm⟩ := h2; exact DataW.trod_lt m _ _ _ hm
  clear hA0 hval0 hsz0
  refine (law_run e0 e1 e2 (IdentChecks_ca (hs _) fun _ => rfl)).mono fun e W' ⟨he, bel⟩ => ?_
  subst he
  exact ⟨_, rfl, _, _, _, [], _, [], hW', trodAll_mk1 (shut_bool Tryz.underlying4 _), trodAll_mk3 (Below.trod laidOut (by kernel_rfl) (of_decide_eq_true (by kernel_rfl)) h0 bel lt0) (Below.trod laidOut (by kernel_rfl) (of_decide_eq_true (by kernel_rfl)) h1 bel lt1) (Below.trod laidOut (by kernel_rfl) (of_decide_eq_true (by kernel_rfl)) h2 bel lt2), rfl, bel.frame _, fun h => by cases h⟩

end Go.Proofs.YtdjmoojonkjafaaGreat
