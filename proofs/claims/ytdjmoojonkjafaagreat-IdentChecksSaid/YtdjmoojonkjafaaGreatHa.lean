/- From what a row says of the arguments to what the contracts ask for: geometries, scripts. -/
import Derived.Test.YtdjmoojonkjafaaGreatGz
import Derived.Test.YtdjmoojonkjafaaGreatAMt
import Derived.Test.YtdjmoojonkjafaaGreatChecked
import Derived.KernelRfl
import Derived.WalkKit
import Derived.ProofKit
import Derived.OpenShut
import Derived.SizedLaws
import Derived.JoinedOf
import Derived.Carry
set_option linter.unusedSimpArgs false
set_option linter.unusedVariables false
set_option maxRecDepth 100000
set_option maxHeartbeats 2000000
namespace Go.Proofs.YtdjmoojonkjafaaGreat
open Go.AM Go.Proofs
attribute [local irreducible] Pu Br Gd Gd2 GdR Nb Cq Pp callF Jn StS StG Still loopW Ca Is
open Go.RowKit Go.WideShapes Go.ChangeShapes

theorem fs_cons {R : TypeId → List AV → Prop} {sz : TypeId → Nat} {f : Field} {fs : List Field} {o : Nat} {cs : List AV} (h : TypFs R sz (f :: fs) o cs) : ∃ a b, cs = a ++ b ∧ R f.type a ∧ TypFs R sz fs (o + sz f.type) b := by
  obtain ⟨_, a, b, h1, _, h2, h3⟩ := h
  exact ⟨a, b, h1, h2, h3⟩

theorem typ_i64 {d : Nat} {a : List AV} (h : TypRow Tryz.prog (d + 1) 3 a) : ∃ n, a = [.int .i64 n] := by
  simp only [TypRow, Tryz.underlying3] at h
  obtain ⟨n, h, _⟩ := h
  exact ⟨n, h⟩
theorem typ_u8 {d : Nat} {a : List AV} (h : TypRow Tryz.prog (d + 1) 5 a) : ∃ n, a = [.int .u8 n] := by
  simp only [TypRow, Tryz.underlying5] at h
  obtain ⟨n, h, _⟩ := h
  exact ⟨n, h⟩
theorem rp_list {α : Type} {f : α → List AV} {R : List AV → Prop} {n : Nat} (hR : ∀ a, R a → ∃ x, a = f x) : ∀ {k : Nat} {cs : List AV}, TypRp R n k cs → ∃ l : List α, cs = l.flatMap f ∧ l.length = k
  | 0, cs, h => ⟨[], h, rfl⟩
  | k + 1, cs, h => by
    obtain ⟨a, b, rfl, _, h2, h3⟩ := h
    obtain ⟨x, rfl⟩ := hR a h2
    obtain ⟨l, rfl, hl⟩ := rp_list hR h3
    exact ⟨x :: l, by simp, by simp [hl]⟩
theorem flat_one {α β : Type} {f : α → β} : ∀ {l : List α}, (l.flatMap fun x => [f x]) = l.map f
  | [] => rfl
  | x :: l => by rw [List.flatMap_cons, List.map_cons, flat_one]; rfl
theorem cells3 : Tryz.prog.cellsOf 3 = 1 := by kernel_rfl
theorem cells5 : Tryz.prog.cellsOf 5 = 1 := by kernel_rfl
theorem cells147 : Tryz.prog.cellsOf 147 = 3 := by kernel_rfl
theorem typ_24 {d : Nat} {a : List AV} (h : TypRow Tryz.prog (d + 2) 24 a) : ∃ v l, a = [v] ∧ ∀ H, Sl H 1 v l.length (in64 l) := by
  rw [TypRow] at h
  simp only [Tryz.underlying24] at h
  rcases h with rfl | ⟨es, len, rfl, _, h⟩
  · exact ⟨_, [], rfl, fun H => Gro.sl .nil⟩
  · obtain ⟨l, rfl, rfl⟩ := rp_list (fun a => typ_i64) h
    rw [flat_one]
    exact ⟨_, l, rfl, fun H => Sl.lit (by simp) in64_sc⟩
theorem typ_26 {d : Nat} {a : List AV} (h : TypRow Tryz.prog (d + 2) 26 a) : ∃ v l, a = [v] ∧ ∀ H, Sl H 1 v l.length (by8 l) := by
  rw [TypRow] at h
  simp only [Tryz.underlying26] at h
  rcases h with rfl | ⟨es, len, rfl, _, h⟩
  · exact ⟨_, [], rfl, fun H => Gro.sl .nil⟩
  · obtain ⟨l, rfl, rfl⟩ := rp_list (fun a => typ_u8) h
    rw [flat_one]
    exact ⟨_, l, rfl, fun H => Sl.lit (by simp) by8_sc⟩
theorem typ_147 {d : Nat} {a : List AV} (h : TypRow Tryz.prog (d + 2) 147 a) : ∃ t : Turn, a = [.int .i64 t.row, .int .i64 t.rung, .int .i64 t.bit] := by
  rw [TypRow] at h
  simp only [Tryz.underlying147] at h
  obtain ⟨a1, b1, e1, h1, g1⟩ := fs_cons h
  subst e1
  obtain ⟨x, rfl⟩ := typ_i64 h1
  obtain ⟨a2, b2, e2, h2, g2⟩ := fs_cons g1
  subst e2
  obtain ⟨y, rfl⟩ := typ_i64 h2
  obtain ⟨a3, b3, e3, h3, g3⟩ := fs_cons g2
  subst e3
  obtain ⟨z, rfl⟩ := typ_i64 h3
  cases g3
  exact ⟨⟨x, y, z⟩, rfl⟩
theorem typ_25 {d : Nat} {a : List AV} (h : TypRow Tryz.prog (d + 3) 25 a) : ∃ v l, a = [v] ∧ ∀ H, Sl H 3 v l.length (tuL l) := by
  rw [TypRow] at h
  simp only [Tryz.underlying25] at h
  rcases h with rfl | ⟨es, len, rfl, _, h⟩
  · exact ⟨_, [], rfl, fun H => Gro.sl .nil⟩
  · obtain ⟨l, rfl, rfl⟩ := rp_list (fun a => typ_147) h
    refine ⟨_, l, rfl, fun H => Sl.lit tuL_len ?_⟩
    simp [List.all_flatMap, scalarA]
theorem geo_row {d : Nat} {a : List AV} (h : TypRow Tryz.prog (d + 2) 23 a) : ∃ g : Geom, a = g.L := by
  rw [TypRow] at h
  simp only [Tryz.underlying23] at h
  obtain ⟨a1, b1, e1, h1, g1⟩ := fs_cons h
  subst e1
  obtain ⟨x1, rfl⟩ := typ_i64 h1
  obtain ⟨a2, b2, e2, h2, g2⟩ := fs_cons g1
  subst e2
  obtain ⟨x2, rfl⟩ := typ_i64 h2
  obtain ⟨a3, b3, e3, h3, g3⟩ := fs_cons g2
  subst e3
  obtain ⟨x3, rfl⟩ := typ_i64 h3
  obtain ⟨a4, b4, e4, h4, g4⟩ := fs_cons g3
  subst e4
  obtain ⟨x4, rfl⟩ := typ_i64 h4
  obtain ⟨a5, b5, e5, h5, g5⟩ := fs_cons g4
  subst e5
  obtain ⟨x5, rfl⟩ := typ_i64 h5
  obtain ⟨a6, b6, e6, h6, g6⟩ := fs_cons g5
  subst e6
  obtain ⟨x6, rfl⟩ := typ_i64 h6
  obtain ⟨a7, b7, e7, h7, g7⟩ := fs_cons g6
  subst e7
  obtain ⟨x7, rfl⟩ := typ_i64 h7
  cases g7
  exact ⟨⟨x1, x2, x3, x4, x5, x6, x7⟩, rfl⟩
theorem scr_row {d : Nat} {a : List AV} (h : TypRow Tryz.prog (d + 4) 28 a) : ∃ (s : Scr) (busy fails : List Int) (turns : List Turn) (torn marked : List Int), a = s.L ∧ ∀ H, ScrAt H s busy fails turns torn marked := by
  rw [TypRow] at h
  simp only [Tryz.underlying28] at h
  obtain ⟨a1, b1, e1, h1, g1⟩ := fs_cons h
  subst e1
  obtain ⟨x1, l1, rfl, y1⟩ := typ_24 h1
  obtain ⟨a2, b2, e2, h2, g2⟩ := fs_cons g1
  subst e2
  obtain ⟨x2, l2, rfl, y2⟩ := typ_24 h2
  obtain ⟨a3, b3, e3, h3, g3⟩ := fs_cons g2
  subst e3
  obtain ⟨x3, l3, rfl, y3⟩ := typ_25 h3
  obtain ⟨a4, b4, e4, h4, g4⟩ := fs_cons g3
  subst e4
  obtain ⟨x4, rfl⟩ := typ_i64 h4
  obtain ⟨a5, b5, e5, h5, g5⟩ := fs_cons g4
  subst e5
  obtain ⟨x5, l5, rfl, y5⟩ := typ_26 h5
  obtain ⟨a6, b6, e6, h6, g6⟩ := fs_cons g5
  subst e6
  obtain ⟨x6, l6, rfl, y6⟩ := typ_24 h6
  cases g6
  exact ⟨⟨x1, x2, x3, x4, x5, x6⟩, l1, l2, l3, l5, l6, rfl, fun H => ⟨y1 H, y2 H, y3 H, y5 H, y6 H⟩⟩
theorem agg23 : aggT Tryz.prog 23 = some true := by kernel_rfl
theorem agg78 : aggT Tryz.prog 78 = some true := by kernel_rfl
theorem typ_geom {d : Nat} {v : AV} (h : TypV Tryz.prog (d + 2) 23 v) : ∃ g : Geom, v = .agg g.L := by
  unfold TypV at h
  rw [agg23] at h
  obtain ⟨cs, rfl, h⟩ := h
  obtain ⟨g, rfl⟩ := geo_row h
  exact ⟨g, rfl⟩
theorem typ_case {d : Nat} {v : AV} (h : TypV Tryz.prog (d + 5) 78 v) : ∃ (s : Scr) (b : Int) (busy fails : List Int) (turns : List Turn) (torn marked : List Int), v = .agg [s.busy, s.fails, s.turns, .int .i64 s.cut, s.torn, s.marked, .int .i64 b] ∧ ∀ H, ScrAt H s busy fails turns torn marked := by
  unfold TypV at h
  rw [agg78] at h
  obtain ⟨cs, rfl, h⟩ := h
  rw [TypRow] at h
  simp only [Tryz.underlying78] at h
  obtain ⟨a1, b1, e1, h1, g1⟩ := fs_cons h
  subst e1
  obtain ⟨s, l1, l2, l3, l4, l5, rfl, hs⟩ := scr_row h1
  obtain ⟨a2, b2, e2, h2, g2⟩ := fs_cons g1
  subst e2
  obtain ⟨x, rfl⟩ := typ_i64 h2
  cases g2
  exact ⟨s, x, l1, l2, l3, l4, l5, rfl, hs⟩
end Go.Proofs.YtdjmoojonkjafaaGreat

/- What all rows of this seat share: closed facts of the program. -/
set_option linter.unusedSimpArgs false
set_option linter.unusedVariables false
set_option maxRecDepth 100000
set_option maxHeartbeats 2000000
namespace Go.Proofs.YtdjmoojonkjafaaGreat
open Go.AM Go.Proofs
attribute [local irreducible] Pu Br Gd Gd2 GdR Nb Cq Pp callF Jn StS StG Still loopW Ca Is
open Go.ChangeShapes Go.WideShapes Go.RowKit

theorem fitn : Tryz.prog.funcs.all (fun fn => !fn.body.isSome || !(fn.name == "runtime.NumGoroutine")) = true := by kernel_rfl
theorem fit : Fit Tryz.prog where
  mix := by kernel_rfl
  name f fn hf hb hn := by
    have h := fitn
    rw [Array.all_eq_true_iff_forall_mem] at h
    have := h fn (Array.mem_of_getElem? hf)
    rw [hb, hn] at this
    simp at this
theorem ownKnobs : ownKnob Tryz.prog.godebug = none := by kernel_rfl
theorem laidOut : laidOutB Tryz.prog = true := by kernel_rfl
theorem plain23 : plainT Tryz.prog 6 23 = true := by kernel_rfl
theorem plain78 : plainT Tryz.prog 6 78 = true := by kernel_rfl

end Go.Proofs.YtdjmoojonkjafaaGreat
