/- Laws of the types of the program: parts of slices, append, tests against nil; printed by a program of mine. -/
import Derived.Test.YtdjmoojonkjafaaGreatAMv
import Derived.Test.YtdjmoojonkjafaaGreatFkp
set_option linter.unusedVariables false
set_option maxRecDepth 100000
namespace Go.Proofs.YtdjmoojonkjafaaGreat
open Go.AM Go.Proofs

theorem sl26 {x : AV} {lo hi : Option AV} : aSlice Tryz.prog 26 x lo hi none = slS 1 x lo hi := by cases x <;> kernel_rfl
theorem sl43 {x : AV} {lo hi : Option AV} : aSlice Tryz.prog 43 x lo hi none = slS 2 x lo hi := by cases x <;> kernel_rfl
theorem sl142 {x : AV} {lo hi : Option AV} : aSlice Tryz.prog 142 x lo hi none = slS 2 x lo hi := by cases x <;> kernel_rfl
theorem sl223 {x : AV} {lo hi : Option AV} : aSlice Tryz.prog 223 x lo hi none = slS 2 x lo hi := by cases x <;> kernel_rfl
theorem sl309 {x : AV} {lo hi : Option AV} : aSlice Tryz.prog 309 x lo hi none = slS 3 x lo hi := by cases x <;> kernel_rfl
theorem ap24 {H : AHeap} {s x : AV} : appendA Tryz.prog H #[24, 24] [s, x] = apS 1 8 H s x := (show appendA Tryz.prog H #[24, 24] [s, x] = apS0 1 8 H s x by kernel_rfl).trans apS0_eq
theorem ap25 {H : AHeap} {s x : AV} : appendA Tryz.prog H #[25, 25] [s, x] = apS 3 24 H s x := (show appendA Tryz.prog H #[25, 25] [s, x] = apS0 3 24 H s x by kernel_rfl).trans apS0_eq
theorem ap26 {H : AHeap} {s x : AV} : appendA Tryz.prog H #[26, 26] [s, x] = apS 1 1 H s x := (show appendA Tryz.prog H #[26, 26] [s, x] = apS0 1 1 H s x by kernel_rfl).trans apS0_eq
theorem ap43 {H : AHeap} {s x : AV} : appendA Tryz.prog H #[43, 43] [s, x] = apS 2 16 H s x := (show appendA Tryz.prog H #[43, 43] [s, x] = apS0 2 16 H s x by kernel_rfl).trans apS0_eq
theorem ap51 {H : AHeap} {s x : AV} : appendA Tryz.prog H #[51, 51] [s, x] = apS 1 24 H s x := (show appendA Tryz.prog H #[51, 51] [s, x] = apS0 1 24 H s x by kernel_rfl).trans apS0_eq
theorem ap129 {H : AHeap} {s x : AV} : appendA Tryz.prog H #[129, 129] [s, x] = apS 6 64 H s x := (show appendA Tryz.prog H #[129, 129] [s, x] = apS0 6 64 H s x by kernel_rfl).trans apS0_eq
theorem ap150 {H : AHeap} {s x : AV} : appendA Tryz.prog H #[150, 150] [s, x] = apS 6 64 H s x := (show appendA Tryz.prog H #[150, 150] [s, x] = apS0 6 64 H s x by kernel_rfl).trans apS0_eq
theorem ap219 {H : AHeap} {s x : AV} : appendA Tryz.prog H #[219, 219] [s, x] = apS 1 1 H s x := (show appendA Tryz.prog H #[219, 219] [s, x] = apS0 1 1 H s x by kernel_rfl).trans apS0_eq
theorem ap223 {H : AHeap} {s x : AV} : appendA Tryz.prog H #[223, 223] [s, x] = apS 2 32 H s x := (show appendA Tryz.prog H #[223, 223] [s, x] = apS0 2 32 H s x by kernel_rfl).trans apS0_eq
theorem ap329 {H : AHeap} {s x : AV} : appendA Tryz.prog H #[329, 329] [s, x] = apS 1 8 H s x := (show appendA Tryz.prog H #[329, 329] [s, x] = apS0 1 8 H s x by kernel_rfl).trans apS0_eq
theorem eql4 {a b : Bool} : aBin Tryz.prog .eql 4 (.bool a) (.bool b) = some (.bool (a == b)) := by cases a <;> cases b <;> kernel_rfl
theorem eql24 : (aBin Tryz.prog .eql 24 .nils .nils = some (.bool true)) ∧ (∀ h o n c, aBin Tryz.prog .eql 24 (.sl h o n c) .nils = some (.bool false)) ∧ (∀ es n e, aBin Tryz.prog .eql 24 (.lit es n e) .nils = some (.bool false)) := by refine ⟨?_, ?_, ?_⟩ <;> intros <;> kernel_rfl
theorem eql26 : (aBin Tryz.prog .eql 26 .nils .nils = some (.bool true)) ∧ (∀ h o n c, aBin Tryz.prog .eql 26 (.sl h o n c) .nils = some (.bool false)) ∧ (∀ es n e, aBin Tryz.prog .eql 26 (.lit es n e) .nils = some (.bool false)) := by refine ⟨?_, ?_, ?_⟩ <;> intros <;> kernel_rfl
theorem eql34 : (aBin Tryz.prog .eql 34 .nilp .nilp = some (.bool true)) ∧ (∀ h o, aBin Tryz.prog .eql 34 (.ptr h o) .nilp = some (.bool false)) ∧ (∀ h o, aBin Tryz.prog .eql 34 .nilp (.ptr h o) = some (.bool false)) ∧ (∀ es, aBin Tryz.prog .eql 34 (.lptr es) .nilp = some (.bool false)) := by refine ⟨?_, ?_, ?_, ?_⟩ <;> intros <;> kernel_rfl
theorem eql43 : (aBin Tryz.prog .eql 43 .nils .nils = some (.bool true)) ∧ (∀ h o n c, aBin Tryz.prog .eql 43 (.sl h o n c) .nils = some (.bool false)) ∧ (∀ es n e, aBin Tryz.prog .eql 43 (.lit es n e) .nils = some (.bool false)) := by refine ⟨?_, ?_, ?_⟩ <;> intros <;> kernel_rfl
theorem eql44 : (aBin Tryz.prog .eql 44 .nilp .nilp = some (.bool true)) ∧ (∀ h o, aBin Tryz.prog .eql 44 (.ptr h o) .nilp = some (.bool false)) ∧ (∀ h o, aBin Tryz.prog .eql 44 .nilp (.ptr h o) = some (.bool false)) ∧ (∀ es, aBin Tryz.prog .eql 44 (.lptr es) .nilp = some (.bool false)) := by refine ⟨?_, ?_, ?_, ?_⟩ <;> intros <;> kernel_rfl
theorem eql74 : (aBin Tryz.prog .eql 74 .nilp .nilp = some (.bool true)) ∧ (∀ h o, aBin Tryz.prog .eql 74 (.ptr h o) .nilp = some (.bool false)) ∧ (∀ h o, aBin Tryz.prog .eql 74 .nilp (.ptr h o) = some (.bool false)) ∧ (∀ es, aBin Tryz.prog .eql 74 (.lptr es) .nilp = some (.bool false)) := by refine ⟨?_, ?_, ?_, ?_⟩ <;> intros <;> kernel_rfl
theorem eql75 : (aBin Tryz.prog .eql 75 .nilp .nilp = some (.bool true)) ∧ (∀ h o, aBin Tryz.prog .eql 75 (.ptr h o) .nilp = some (.bool false)) ∧ (∀ h o, aBin Tryz.prog .eql 75 .nilp (.ptr h o) = some (.bool false)) ∧ (∀ es, aBin Tryz.prog .eql 75 (.lptr es) .nilp = some (.bool false)) := by refine ⟨?_, ?_, ?_, ?_⟩ <;> intros <;> kernel_rfl
theorem neq4 {a b : Bool} : aBin Tryz.prog .neq 4 (.bool a) (.bool b) = some (.bool (a != b)) := by cases a <;> cases b <;> kernel_rfl
theorem neq34 : (aBin Tryz.prog .neq 34 .nilp .nilp = some (.bool false)) ∧ (∀ h o, aBin Tryz.prog .neq 34 (.ptr h o) .nilp = some (.bool true)) ∧ (∀ h o, aBin Tryz.prog .neq 34 .nilp (.ptr h o) = some (.bool true)) ∧ (∀ es, aBin Tryz.prog .neq 34 (.lptr es) .nilp = some (.bool true)) := by refine ⟨?_, ?_, ?_, ?_⟩ <;> intros <;> kernel_rfl
theorem neq44 : (aBin Tryz.prog .neq 44 .nilp .nilp = some (.bool false)) ∧ (∀ h o, aBin Tryz.prog .neq 44 (.ptr h o) .nilp = some (.bool true)) ∧ (∀ h o, aBin Tryz.prog .neq 44 .nilp (.ptr h o) = some (.bool true)) ∧ (∀ es, aBin Tryz.prog .neq 44 (.lptr es) .nilp = some (.bool true)) := by refine ⟨?_, ?_, ?_, ?_⟩ <;> intros <;> kernel_rfl
theorem neq74 : (aBin Tryz.prog .neq 74 .nilp .nilp = some (.bool false)) ∧ (∀ h o, aBin Tryz.prog .neq 74 (.ptr h o) .nilp = some (.bool true)) ∧ (∀ h o, aBin Tryz.prog .neq 74 .nilp (.ptr h o) = some (.bool true)) ∧ (∀ es, aBin Tryz.prog .neq 74 (.lptr es) .nilp = some (.bool true)) := by refine ⟨?_, ?_, ?_, ?_⟩ <;> intros <;> kernel_rfl
theorem neq75 : (aBin Tryz.prog .neq 75 .nilp .nilp = some (.bool false)) ∧ (∀ h o, aBin Tryz.prog .neq 75 (.ptr h o) .nilp = some (.bool true)) ∧ (∀ h o, aBin Tryz.prog .neq 75 .nilp (.ptr h o) = some (.bool true)) ∧ (∀ es, aBin Tryz.prog .neq 75 (.lptr es) .nilp = some (.bool true)) := by refine ⟨?_, ?_, ?_, ?_⟩ <;> intros <;> kernel_rfl
theorem neq94 : (aBin Tryz.prog .neq 94 .nilp .nilp = some (.bool false)) ∧ (∀ h o, aBin Tryz.prog .neq 94 (.ptr h o) .nilp = some (.bool true)) ∧ (∀ h o, aBin Tryz.prog .neq 94 .nilp (.ptr h o) = some (.bool true)) ∧ (∀ es, aBin Tryz.prog .neq 94 (.lptr es) .nilp = some (.bool true)) := by refine ⟨?_, ?_, ?_, ?_⟩ <;> intros <;> kernel_rfl
theorem neq193 : (aBin Tryz.prog .neq 193 .nilp .nilp = some (.bool false)) ∧ (∀ h o, aBin Tryz.prog .neq 193 (.ptr h o) .nilp = some (.bool true)) ∧ (∀ h o, aBin Tryz.prog .neq 193 .nilp (.ptr h o) = some (.bool true)) ∧ (∀ es, aBin Tryz.prog .neq 193 (.lptr es) .nilp = some (.bool true)) := by refine ⟨?_, ?_, ?_, ?_⟩ <;> intros <;> kernel_rfl
theorem neq222 : (aBin Tryz.prog .neq 222 .nilp .nilp = some (.bool false)) ∧ (∀ h o, aBin Tryz.prog .neq 222 (.ptr h o) .nilp = some (.bool true)) ∧ (∀ h o, aBin Tryz.prog .neq 222 .nilp (.ptr h o) = some (.bool true)) ∧ (∀ es, aBin Tryz.prog .neq 222 (.lptr es) .nilp = some (.bool true)) := by refine ⟨?_, ?_, ?_, ?_⟩ <;> intros <;> kernel_rfl
theorem neq291 : (aBin Tryz.prog .neq 291 .nilm .nilm = some (.bool false)) ∧ (∀ h, aBin Tryz.prog .neq 291 (.map h) .nilm = some (.bool true)) := by refine ⟨?_, ?_⟩ <;> intros <;> kernel_rfl
theorem neq319 : (aBin Tryz.prog .neq 319 .nilm .nilm = some (.bool false)) ∧ (∀ h, aBin Tryz.prog .neq 319 (.map h) .nilm = some (.bool true)) := by refine ⟨?_, ?_⟩ <;> intros <;> kernel_rfl
theorem still3 {p v : AV} {H : AHeap} : Still Tryz.prog (some (.load 3 p)) v H = StS p v H := by
  have e : aread Tryz.prog H (.load 3 p) = ldS H p := by cases p <;> kernel_rfl
  unfold Still; simp only [e]; rfl
theorem still4 {p v : AV} {H : AHeap} : Still Tryz.prog (some (.load 4 p)) v H = StS p v H := by
  have e : aread Tryz.prog H (.load 4 p) = ldS H p := by cases p <;> kernel_rfl
  unfold Still; simp only [e]; rfl
theorem still5 {p v : AV} {H : AHeap} : Still Tryz.prog (some (.load 5 p)) v H = StS p v H := by
  have e : aread Tryz.prog H (.load 5 p) = ldS H p := by cases p <;> kernel_rfl
  unfold Still; simp only [e]; rfl
theorem still23 {p v : AV} {H : AHeap} : Still Tryz.prog (some (.load 23 p)) v H = StG 7 p v H := by
  have e : aread Tryz.prog H (.load 23 p) = ldG 7 H p := by cases p <;> kernel_rfl
  unfold Still; simp only [e]; rfl
theorem still24 {p v : AV} {H : AHeap} : Still Tryz.prog (some (.load 24 p)) v H = StS p v H := by
  have e : aread Tryz.prog H (.load 24 p) = ldS H p := by cases p <;> kernel_rfl
  unfold Still; simp only [e]; rfl
theorem still26 {p v : AV} {H : AHeap} : Still Tryz.prog (some (.load 26 p)) v H = StS p v H := by
  have e : aread Tryz.prog H (.load 26 p) = ldS H p := by cases p <;> kernel_rfl
  unfold Still; simp only [e]; rfl
theorem still39 {p v : AV} {H : AHeap} : Still Tryz.prog (some (.load 39 p)) v H = StS p v H := by
  have e : aread Tryz.prog H (.load 39 p) = ldS H p := by cases p <;> kernel_rfl
  unfold Still; simp only [e]; rfl
theorem still70 {p v : AV} {H : AHeap} : Still Tryz.prog (some (.load 70 p)) v H = StS p v H := by
  have e : aread Tryz.prog H (.load 70 p) = ldS H p := by cases p <;> kernel_rfl
  unfold Still; simp only [e]; rfl
theorem still117 {p v : AV} {H : AHeap} : Still Tryz.prog (some (.load 117 p)) v H = StG 4 p v H := by
  have e : aread Tryz.prog H (.load 117 p) = ldG 4 H p := by cases p <;> kernel_rfl
  unfold Still; simp only [e]; rfl
theorem still144 {p v : AV} {H : AHeap} : Still Tryz.prog (some (.load 144 p)) v H = StG 2 p v H := by
  have e : aread Tryz.prog H (.load 144 p) = ldG 2 H p := by cases p <;> kernel_rfl
  unfold Still; simp only [e]; rfl
theorem still219 {p v : AV} {H : AHeap} : Still Tryz.prog (some (.load 219 p)) v H = StS p v H := by
  have e : aread Tryz.prog H (.load 219 p) = ldS H p := by cases p <;> kernel_rfl
  unfold Still; simp only [e]; rfl
theorem still223 {p v : AV} {H : AHeap} : Still Tryz.prog (some (.load 223 p)) v H = StS p v H := by
  have e : aread Tryz.prog H (.load 223 p) = ldS H p := by cases p <;> kernel_rfl
  unfold Still; simp only [e]; rfl
attribute [simp] sl26 sl43 sl142 sl223 sl309 ap24 ap25 ap26 ap43 ap51 ap129 ap150 ap219 ap223 ap329 eql4 eql24 eql26 eql34 eql43 eql44 eql74 eql75 neq4 neq34 neq44 neq74 neq75 neq94 neq193 neq222 neq291 neq319 still3 still4 still5 still23 still24 still26 still39 still70 still117 still144 still219 still223
end Go.Proofs.YtdjmoojonkjafaaGreat
