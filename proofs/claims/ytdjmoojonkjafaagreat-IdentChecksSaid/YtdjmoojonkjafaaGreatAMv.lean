/- The abstract machine, twenty-second part: slices: what they show, and how they grow. -/
import Derived.Test.YtdjmoojonkjafaaGreatAMu
set_option linter.unusedSimpArgs false
set_option linter.unusedVariables false
namespace Go.AM
attribute [local simp] AHeap.n_set AHeap.n_push

def fp : AV → List Nat
  | .sl h _ _ _ => [h]
  | _ => []

/-- a slice shows so many elements: their cells -/
structure Sl (H : AHeap) (sz : Nat) (v : AV) (len : Nat) (cs : List AV) : Prop where
  ln : lnS v = some (.int .i64 len)
  fst : firstA sz len H v = some cs
  sc : cs.all scalarA = true
  al : ∀ h ∈ fp v, len * sz ≠ 0 → h < H.n
  gz : ∀ h o n z, v = .sl h o n (.gr z) → z = sz
  lt : ∀ es n e, v = .lit es n e → es.length = n * sz

theorem lnS_cases {v : AV} {len : Nat} (h : lnS v = some (.int .i64 len)) : (v = .nils ∧ len = 0) ∨ (∃ a o c, v = .sl a o len c) ∨ (∃ es e, v = .lit es len e) := by
  cases v <;> simp [lnS] at h
  · exact .inl ⟨rfl, by omega⟩
  · rename_i a o n c; exact .inr (.inl ⟨a, o, c, by rw [show n = len by omega]⟩)
  · rename_i es n e; exact .inr (.inr ⟨es, e, by rw [show n = len by omega]⟩)

theorem Sl.la {H : AHeap} {sz len : Nat} {v : AV} {cs : List AV} (s : Sl H sz v len cs) : lenA v = some len := by
  rcases lnS_cases s.ln with ⟨rfl, rfl⟩ | ⟨a, o, c, rfl⟩ | ⟨es, e, rfl⟩ <;> rfl
theorem Sl.ls {H : AHeap} {sz len : Nat} {v : AV} {cs : List AV} (s : Sl H sz v len cs) : lenS v = some len := by
  rcases lnS_cases s.ln with ⟨rfl, rfl⟩ | ⟨a, o, c, rfl⟩ | ⟨es, e, rfl⟩ <;> rfl

/-- the three ways a slice can be -/
theorem Sl.cases {H : AHeap} {sz len : Nat} {v : AV} {cs : List AV} (s : Sl H sz v len cs) :
    (v = .nils ∧ len = 0 ∧ cs = []) ∨ (∃ e, v = .lit cs len e ∧ cs.length = len * sz) ∨
    (∃ h off c, v = .sl h off len c ∧ ((len * sz = 0 ∧ cs = []) ∨ (h < H.n ∧ ∃ bs, H.get h = some (.cells sz bs) ∧ off + len * sz ≤ bs.length ∧ cs = (bs.drop off).take (len * sz)))) := by
  have h1 := s.fst
  rcases lnS_cases s.ln with ⟨rfl, rfl⟩ | ⟨a, o, c, rfl⟩ | ⟨es, e, rfl⟩
  · simp [firstA] at h1; exact .inl ⟨rfl, rfl, h1⟩
  · refine .inr (.inr ⟨a, o, c, rfl, ?_⟩)
    simp only [firstA] at h1
    split at h1
    · rename_i h0; cases h1; exact .inl ⟨h0, rfl⟩
    · rename_i h0
      split at h1
      · rename_i z bs hb
        split at h1
        · rename_i hc; obtain ⟨rfl, _, hc⟩ := hc; cases h1
          exact .inr ⟨s.al a (by simp [fp]) h0, bs, hb, hc, rfl⟩
        · cases h1
      · cases h1
  · have := s.lt es len e rfl
    simp only [firstA] at h1
    rw [if_pos (by omega)] at h1
    cases h1
    refine .inr (.inl ⟨e, ?_, ?_⟩)
    · rw [List.take_of_length_le (by omega)]
    · rw [List.length_take]; omega

theorem Sl.cl {H : AHeap} {sz len : Nat} {v : AV} {cs : List AV} (s : Sl H sz v len cs) : cs.length = len * sz := by
  rcases s.cases with ⟨rfl, rfl, rfl⟩ | ⟨e, rfl, h⟩ | ⟨h, o, c, rfl, ⟨h0, rfl⟩ | ⟨_, bs, _, h, rfl⟩⟩
  · simp
  · exact h
  · simp [h0]
  · rw [List.length_take, List.length_drop]; omega

theorem Sl.fr {F : List Nat} {H H' : AHeap} {sz len : Nat} {v : AV} {cs : List AV} (s : Sl H sz v len cs) (e : Fr F H H') (d : ∀ h ∈ fp v, h ∉ F) : Sl H' sz v len cs := by
  refine ⟨s.ln, ?_, s.sc, fun h hh h0 => Nat.lt_of_lt_of_le (s.al h hh h0) e.n, s.gz, s.lt⟩
  have h1 := s.fst
  rcases s.cases with ⟨rfl, rfl, rfl⟩ | ⟨_, rfl, h⟩ | ⟨h, o, c, rfl, ⟨h0, rfl⟩ | ⟨hl, bs, hb, h, rfl⟩⟩
  · exact h1
  · exact h1
  · simp [firstA, h0]
  · have := e.eq _ hl (d _ (by simp [fp]))
    simp only [firstA] at h1 ⊢
    rw [this]; exact h1
theorem Sl.ext {H H' : AHeap} {sz len : Nat} {v : AV} {cs : List AV} (s : Sl H sz v len cs) (e : Ext H H') : Sl H' sz v len cs := s.fr e (by simp)

/-- an element of a slice -/
theorem Sl.ix {H : AHeap} {sz len : Nat} {v : AV} {cs : List AV} (s : Sl H sz v len cs) {k : IntKind} {i : Int} (hi : 0 ≤ i) (hl : i < len) (hs : 0 < sz) :
    ∃ p, ixS sz v (.int k i) = some p ∧ ldS H p = cs[i.toNat * sz]? ∧ ldG sz H p = some (.agg ((cs.drop (i.toNat * sz)).take sz)) ∧ ∀ f, f < sz → ∃ q, fdP f p = some q ∧ ldS H q = cs[i.toNat * sz + f]? := by
  have hc := s.cl
  have key : i.toNat * sz + sz ≤ len * sz := by rw [← Nat.succ_mul]; exact Nat.mul_le_mul_right _ (by omega)
  rcases s.cases with ⟨rfl, rfl, rfl⟩ | ⟨e, rfl, h⟩ | ⟨h1, o, c, rfl, ⟨h0, rfl⟩ | ⟨_, bs, hb, h, rfl⟩⟩
  · omega
  · refine ⟨.lptr (cs.drop (i.toNat * sz)), ?_, ?_, ?_, fun f hf => ⟨.lptr ((cs.drop (i.toNat * sz)).drop f), ?_, ?_⟩⟩
    · simp only [ixS]; rw [if_pos ⟨hi, hl, by omega⟩]
    · simp [ldS]
    · simp only [ldG]; rw [if_pos (by rw [List.length_drop]; omega)]; simp
    · simp only [fdP]; rw [if_pos (by rw [List.length_drop]; omega)]
    · simp [ldS]
  · have : sz ≤ len * sz := Nat.le_mul_of_pos_left sz (by omega)
    omega
  · refine ⟨.ptr h1 (o + i.toNat * sz), ?_, ?_, ?_, fun f hf => ⟨.ptr h1 (o + i.toNat * sz + f), rfl, ?_⟩⟩
    · simp only [ixS]; rw [if_pos ⟨hi, hl⟩]
    · simp only [ldS, blkCells, hb, Option.bind_some]
      rw [List.getElem?_take, if_pos (by omega), List.getElem?_drop]
    · simp only [ldG, blkCells, hb, Option.bind_some]
      rw [List.length_take, List.length_drop] at hc
      rw [if_pos (by omega)]
      rw [List.drop_take, List.take_take, Nat.min_eq_left (by omega), List.drop_drop]
    · simp only [ldS, blkCells, hb, Option.bind_some]
      rw [List.getElem?_take, if_pos (by omega), List.getElem?_drop, Nat.add_assoc]

/-- a slice that can grow -/
inductive Gro (H : AHeap) (sz : Nat) : AV → Nat → List AV → Prop where
  | nil : Gro H sz .nils 0 []
  | lit {es : List AV} {len : Nat} (h : es.length = len * sz) (sc : es.all scalarA = true) : Gro H sz (.lit es len true) len es
  | gr {h len : Nat} {cs : List AV} (hl : cs.length = len * sz) (a : At H h (.cells sz cs)) (sc : cs.all scalarA = true) : Gro H sz (.sl h 0 len (.gr sz)) len cs

theorem Gro.sl {H : AHeap} {sz len : Nat} {v : AV} {cs : List AV} (g : Gro H sz v len cs) : Sl H sz v len cs := by
  cases g with
  | nil => exact ⟨rfl, by simp [firstA], rfl, by simp [fp], by simp, by simp⟩
  | lit h sc => exact ⟨rfl, by simp only [firstA]; rw [if_pos (by omega), List.take_of_length_le (by omega)], sc, by simp [fp], by simp, by intro es n e; rintro ⟨⟩; exact h⟩
  | gr hl a sc =>
    refine ⟨rfl, ?_, sc, ?_, by intro h o n z; rintro ⟨⟩; rfl, by simp⟩
    · simp only [firstA]
      split
      · rename_i h0; rw [h0] at hl; simp at hl; simp [hl]
      · simp only [a.g]; rw [if_pos ⟨by trivial, Nat.le_refl _, by omega⟩]; simp [← hl]
    · intro h hh _; simp [fp] at hh; subst hh; exact a.l
theorem Gro.fr {F : List Nat} {H H' : AHeap} {sz len : Nat} {v : AV} {cs : List AV} (g : Gro H sz v len cs) (e : Fr F H H') (d : ∀ h ∈ fp v, h ∉ F) : Gro H' sz v len cs := by
  cases g with
  | nil => exact .nil
  | lit h sc => exact .lit h sc
  | gr hl a sc => exact .gr hl (a.fr e (d _ (by simp [fp]))) sc
theorem Gro.ext {H H' : AHeap} {sz len : Nat} {v : AV} {cs : List AV} (g : Gro H sz v len cs) (e : Ext H H') : Gro H' sz v len cs := g.fr e (by simp)
theorem Gro.al {H : AHeap} {sz len : Nat} {v : AV} {cs : List AV} (g : Gro H sz v len cs) : ∀ h ∈ fp v, h < H.n := by
  cases g with
  | nil => simp [fp]
  | lit _ _ => simp [fp]
  | gr hl a sc => simp [fp]; exact a.l

/-- append, with a type's sizes known -/
def apS (n by_ : Nat) (H : AHeap) (s x : AV) : Option (AV × AHeap) := (lenA x).bind fun k => (firstA n k H x).bind fun xs => appendTo H n by_ s k xs

def apS0 (n by_ : Nat) (H : AHeap) (s x : AV) : Option (AV × AHeap) := ((lenA x).bind fun k => (firstA n k H x).map fun cs => (k, cs)).bind fun p => appendTo H n by_ s p.1 p.2
theorem apS0_eq {n by_ : Nat} {H : AHeap} {s x : AV} : apS0 n by_ H s x = apS n by_ H s x := by
  simp only [apS0, apS]
  cases lenA x with
  | none => rfl
  | some k => simp only [Option.bind_some]; cases firstA n k H x <;> rfl

theorem append_gro {n by_ : Nat} {H : AHeap} {s x : AV} {len k : Nat} {cs xs : List AV} (g : Gro H n s len cs) (sx : Sl H n x k xs) (hb : (len + k) * (by_ + 1) ≤ 2 ^ 40) :
    ∃ v' H', apS n by_ H s x = some (v', H') ∧ Gro H' n v' (len + k) (cs ++ xs) ∧ Fr (fp s) H H' ∧ (∀ h ∈ fp v', h ∈ fp s ∨ H.n ≤ h) ∧ (k = 0 ∨ ∃ h, v' = .sl h 0 (len + k) (.gr n) ∧ H.n ≤ h) := by
  have hx := sx.cl
  simp only [apS, sx.la, sx.fst, Option.bind_some]
  by_cases hk : k = 0
  · subst hk
    have hxs : xs = [] := by simpa using hx
    subst hxs
    refine ⟨s, H, ?_, by simpa using g, .refl, fun h hh => .inl hh, .inl rfl⟩
    cases g <;> simp [appendTo]
  · cases g with
    | nil =>
      refine ⟨.sl H.n 0 k (.gr n), H.push (.cells n xs), ?_, ?_, Fr.refl.push, by simp [fp], .inr ⟨H.n, by simp, Nat.le_refl _⟩⟩
      · simp only [appendTo]; rw [if_neg hk, if_pos (by simpa using hb)]
      · have := Gro.gr (H := H.push (.cells n xs)) hx .push sx.sc
        simpa using this
    | lit h sc =>
      refine ⟨.sl H.n 0 (len + k) (.gr n), H.push (.cells n (cs ++ xs)), ?_, ?_, Fr.refl.push, by simp [fp], .inr ⟨H.n, rfl, Nat.le_refl _⟩⟩
      · simp only [appendTo]; rw [if_neg hk, if_pos ⟨by first | trivial | rfl, h, hb⟩]
      · refine Gro.gr (H := H.push (.cells n (cs ++ xs))) ?_ .push ?_
        · rw [List.length_append, h, hx, Nat.add_mul]
        · simp [List.all_append, sc, sx.sc]
    | gr hl a sc =>
      rename_i h
      refine ⟨.sl H.n 0 (len + k) (.gr n), (H.set h .dead).push (.cells n (cs ++ xs)), ?_, ?_, (Fr.refl.set (.inl (by simp [fp]))).push, by simp [fp], .inr ⟨H.n, rfl, Nat.le_refl _⟩⟩
      · simp only [appendTo]; rw [if_neg hk, if_pos hb]; simp only [a.g]
        rw [if_pos ⟨by trivial, by trivial, by omega, sx.sc⟩]; simp [← hl]
      · refine Gro.gr (H := (H.set h .dead).push (.cells n (cs ++ xs))) ?_ .push ?_
        · rw [List.length_append, hl, hx, Nat.add_mul]
        · simp [List.all_append, sc, sx.sc]

theorem X_app {n by_ : Nat} {H : AHeap} {s x : AV} {K : AV → AHeap → Prop} {o : Option (AV × AHeap)} (eo : o = apS n by_ H s x) {len k : Nat} {cs xs : List AV} (g : Gro H n s len cs) (sx : Sl H n x k xs) (hb : (len + k) * (by_ + 1) ≤ 2 ^ 40)
    (c : ∀ v' H', Gro H' n v' (len + k) (cs ++ xs) → Fr (fp s) H H' → (∀ h ∈ fp v', h ∈ fp s ∨ H.n ≤ h) → (k = 0 ∨ ∃ h, v' = .sl h 0 (len + k) (.gr n) ∧ H.n ≤ h) → K v' H') : Pp o K := by
  subst eo
  obtain ⟨v', H', e, h1, h2, h3, h4⟩ := append_gro g sx hb
  exact X_Pp e (c v' H' h1 h2 h3 h4)

theorem Fr.cut {F : List Nat} {H H1 H2 : AHeap} (e : Ext H H1) (e2 : Fr F H1 H2) (h : ∀ g ∈ F, H.n ≤ g) : Ext H H2 := Fr.trans e e2 (fun g hg => .inr (h g hg))
/-- a literal's slice -/
theorem Sl.lit {H : AHeap} {sz : Nat} {es : List AV} {len : Nat} {e : Bool} (h : es.length = len * sz) (sc : es.all scalarA = true) : Sl H sz (.lit es len e) len es :=
  ⟨rfl, by simp only [firstA]; rw [if_pos (by omega), List.take_of_length_le (by omega)], sc, by simp [fp], by simp, by intro es n e; rintro ⟨⟩; exact h⟩

/-- a part of a slice, with a type's size known -/
def slS (n : Nat) (x : AV) (lo hi : Option AV) : Option AV :=
  match x with
  | .nils =>
    match boundA 0 0 hi with
    | some j => match boundA 0 j lo with
      | some _ => some .nils
      | none => none
    | none => none
  | .sl h off len cp =>
    match boundA len len hi with
    | some j => match boundA 0 j lo with
      | some i => match cp with
        | .gr z => if z = n then some (.sl h (off + i * n) (j - i) (.gr z)) else none
        | .ex c => some (.sl h (off + i * n) (j - i) (.ex (c - i)))
      | none => none
    | none => none
  | .lit es len ex =>
    match boundA len len hi with
    | some j => match boundA 0 j lo with
      | some i => if es.length = len * n then some (.lit ((es.drop (i * n)).take ((j - i) * n)) (j - i) (ex && j == len)) else none
      | none => none
    | none => none
  | _ => none

theorem boundA_some {d y : Nat} {k : IntKind} {i : Int} (h : 0 ≤ i ∧ i ≤ y) : boundA d y (some (.int k i)) = some i.toNat := by simp only [boundA]; rw [if_pos h]

theorem Sl.slice {H : AHeap} {sz len : Nat} {v : AV} {cs : List AV} (s : Sl H sz v len cs) {lo hi : Option AV} {i j : Nat} (hj : boundA len len hi = some j) (hi' : boundA 0 j lo = some i) (hij : i ≤ j) (hjl : j ≤ len) :
    ∃ v', slS sz v lo hi = some v' ∧ Sl H sz v' (j - i) ((cs.drop (i * sz)).take ((j - i) * sz)) ∧ (∀ h ∈ fp v', h ∈ fp v) := by
  have hc := s.cl
  have key : i * sz + (j - i) * sz ≤ len * sz := by rw [← Nat.add_mul]; exact Nat.mul_le_mul_right _ (by omega)
  have sc : ((cs.drop (i * sz)).take ((j - i) * sz)).all scalarA = true := by
    rw [List.all_eq_true]; intro x hx
    exact List.all_eq_true.1 s.sc x (List.mem_of_mem_drop (List.mem_of_mem_take hx))
  rcases s.cases with ⟨rfl, rfl, rfl⟩ | ⟨e, rfl, h⟩ | ⟨h, o, c, rfl, hh⟩
  · have : j = 0 := by omega
    subst this
    have : i = 0 := by omega
    subst this
    refine ⟨.nils, by simp only [slS, hj, hi'], ⟨rfl, by simp [firstA], by simp, by simp [fp], by simp, by simp⟩, by simp⟩
  · refine ⟨_, by simp only [slS, hj, hi']; rw [if_pos h], Sl.lit (by rw [List.length_take, List.length_drop]; omega) sc, by simp [fp]⟩
  · have mk : ∀ c', (∀ z, c' = .gr z → z = sz) → Sl H sz (.sl h (o + i * sz) (j - i) c') (j - i) ((cs.drop (i * sz)).take ((j - i) * sz)) := by
      intro c' hz
      refine ⟨rfl, ?_, sc, ?_, by intro a b n z; rintro ⟨⟩; exact hz z rfl, by simp⟩
      · simp only [firstA]
        split
        · rename_i h0; rw [h0]; simp
        · rename_i h0
          rcases hh with ⟨h1, rfl⟩ | ⟨_, bs, hb, hl, rfl⟩
          · omega
          · simp only [hb]
            rw [if_pos ⟨by trivial, Nat.le_refl _, by omega⟩, List.drop_take, List.take_take, Nat.min_eq_left (by omega), List.drop_drop]
      · intro k hk h0
        simp [fp] at hk; subst hk
        rcases hh with ⟨h1, rfl⟩ | ⟨hl, _⟩
        · omega
        · exact hl
    cases c with
    | gr z =>
      have hz := s.gz _ _ _ _ rfl
      subst hz
      exact ⟨_, by simp only [slS, hj, hi', if_true], mk (.gr z) (by rintro z ⟨⟩; rfl), by simp [fp]⟩
    | ex m => exact ⟨_, by simp only [slS, hj, hi'], mk (.ex (m - i)) (by rintro z ⟨⟩), by simp [fp]⟩
theorem Sl.nil_cases {H : AHeap} {sz len : Nat} {v : AV} {cs : List AV} (s : Sl H sz v len cs) : (v = .nils ∧ len = 0 ∧ cs = []) ∨ (∃ h o c, v = .sl h o len c) ∨ (∃ e, v = .lit cs len e) := by
  rcases s.cases with h | ⟨e, h, _⟩ | ⟨h, o, c, h1, _⟩
  · exact .inl h
  · exact .inr (.inr ⟨e, h⟩)
  · exact .inr (.inl ⟨h, o, c, h1⟩)

theorem Gro.one {H : AHeap} {sz : Nat} {v : AV} {len : Nat} {cs : List AV} (g : Gro H sz v len cs) : v.cells = [v] ∧ scalarA v = true := by cases g <;> exact ⟨rfl, rfl⟩

end Go.AM

/- How a printed function is gone through, in short words: each theorem bears its tactic as an argument that is found where it is used. -/
set_option linter.unusedSimpArgs false
set_option linter.unusedVariables false
namespace Go.AM
theorem fa {F : List Nat} {H H1 : AHeap} (h : Fr F H H1 := by first | exact Fr.refl | (repeat (first | with_reducible exact Fr.refl | assumption | exact Fr.mono (by assumption) (by simp) | (with_reducible apply Fr.push) | (with_reducible apply Fr.hUp) | ((with_reducible apply Fr.set); (case hh => first | (left; simp; done) | (right; simp; done) | (right; simp; omega) | (simp; omega)))))) : Fr F H H1 := h
theorem rr0 { G1 G : Prop} (k : G1) (h : G1 → G := by intro kk; (repeat (first | (with_reducible first | refine X_Jn ?_ | refine X_BrT ?_ | refine X_BrF ?_ | refine X_Nw ?_ | refine X_Cq ?_ | refine X_Gtt ?_ | refine X_Gff ?_ | refine X_Gtf ?_ | refine X_Gft ?_ | refine X_Gu ?_ | refine X_G2tt ?_ | refine X_G2ff ?_ | refine X_G2tf ?_ | refine X_G2ft ?_ | refine X_G2u ?_ | refine X_GRtt ?_ | refine X_GRff ?_ | refine X_GRtf ?_ | refine X_GRft ?_ | refine X_GRu ?_ | refine X_fn ?_) | ((with_reducible first | apply X_Pu | apply X_Nb | apply X_Pp); (case h => first | ((try simp) <;> (with_reducible first | exact (Is_rfl : Is (some (AV.bool true)) _) | exact (Is_rfl : Is (some (AV.bool false)) _) | ((fail_if_success exact Is_b); exact Is_rfl))) | ((try simp (disch := (first | assumption | omega | (simp <;> omega) | fail)) [SW, SA, SV, if_pos, if_neg, dec_t, dec_f]) <;> (with_reducible first | exact (Is_rfl : Is (some (AV.bool true)) _) | exact (Is_rfl : Is (some (AV.bool false)) _) | ((fail_if_success exact Is_b); exact Is_rfl))))) | ((with_reducible apply X_And); (case h => first | (simp; done) | (simp (disch := (first | assumption | omega | (simp <;> omega) | fail)) [SW, SA, SV, if_pos, if_neg, dec_t, dec_f]; done))))); exact kk) : G := h  k
theorem rr1 {A0 G1 G : Prop} (q0 : A0) (k : G1) (h : A0 → G1 → G := by intro q0 kk; (repeat (first | (with_reducible first | refine X_Jn ?_ | refine X_BrT ?_ | refine X_BrF ?_ | refine X_Nw ?_ | refine X_Cq ?_ | refine X_Gtt ?_ | refine X_Gff ?_ | refine X_Gtf ?_ | refine X_Gft ?_ | refine X_Gu ?_ | refine X_G2tt ?_ | refine X_G2ff ?_ | refine X_G2tf ?_ | refine X_G2ft ?_ | refine X_G2u ?_ | refine X_GRtt ?_ | refine X_GRff ?_ | refine X_GRtf ?_ | refine X_GRft ?_ | refine X_GRu ?_ | refine X_fn ?_) | ((with_reducible first | apply X_Pu | apply X_Nb | apply X_Pp); (case h => first | ((try simp [q0]) <;> (with_reducible first | exact (Is_rfl : Is (some (AV.bool true)) _) | exact (Is_rfl : Is (some (AV.bool false)) _) | ((fail_if_success exact Is_b); exact Is_rfl))) | ((try simp (disch := (first | assumption | omega | (simp <;> omega) | fail)) [SW, SA, SV, if_pos, if_neg, dec_t, dec_f, q0]) <;> (with_reducible first | exact (Is_rfl : Is (some (AV.bool true)) _) | exact (Is_rfl : Is (some (AV.bool false)) _) | ((fail_if_success exact Is_b); exact Is_rfl))))) | ((with_reducible apply X_And); (case h => first | (simp [q0]; done) | (simp (disch := (first | assumption | omega | (simp <;> omega) | fail)) [SW, SA, SV, if_pos, if_neg, dec_t, dec_f, q0]; done))))); exact kk) : G := h q0 k
theorem rr2 {A0 A1 G1 G : Prop} (q0 : A0) (q1 : A1) (k : G1) (h : A0 → A1 → G1 → G := by intro q0 q1 kk; (repeat (first | (with_reducible first | refine X_Jn ?_ | refine X_BrT ?_ | refine X_BrF ?_ | refine X_Nw ?_ | refine X_Cq ?_ | refine X_Gtt ?_ | refine X_Gff ?_ | refine X_Gtf ?_ | refine X_Gft ?_ | refine X_Gu ?_ | refine X_G2tt ?_ | refine X_G2ff ?_ | refine X_G2tf ?_ | refine X_G2ft ?_ | refine X_G2u ?_ | refine X_GRtt ?_ | refine X_GRff ?_ | refine X_GRtf ?_ | refine X_GRft ?_ | refine X_GRu ?_ | refine X_fn ?_) | ((with_reducible first | apply X_Pu | apply X_Nb | apply X_Pp); (case h => first | ((try simp [q0, q1]) <;> (with_reducible first | exact (Is_rfl : Is (some (AV.bool true)) _) | exact (Is_rfl : Is (some (AV.bool false)) _) | ((fail_if_success exact Is_b); exact Is_rfl))) | ((try simp (disch := (first | assumption | omega | (simp <;> omega) | fail)) [SW, SA, SV, if_pos, if_neg, dec_t, dec_f, q0, q1]) <;> (with_reducible first | exact (Is_rfl : Is (some (AV.bool true)) _) | exact (Is_rfl : Is (some (AV.bool false)) _) | ((fail_if_success exact Is_b); exact Is_rfl))))) | ((with_reducible apply X_And); (case h => first | (simp [q0, q1]; done) | (simp (disch := (first | assumption | omega | (simp <;> omega) | fail)) [SW, SA, SV, if_pos, if_neg, dec_t, dec_f, q0, q1]; done))))); exact kk) : G := h q0 q1 k
theorem rr3 {A0 A1 A2 G1 G : Prop} (q0 : A0) (q1 : A1) (q2 : A2) (k : G1) (h : A0 → A1 → A2 → G1 → G := by intro q0 q1 q2 kk; (repeat (first | (with_reducible first | refine X_Jn ?_ | refine X_BrT ?_ | refine X_BrF ?_ | refine X_Nw ?_ | refine X_Cq ?_ | refine X_Gtt ?_ | refine X_Gff ?_ | refine X_Gtf ?_ | refine X_Gft ?_ | refine X_Gu ?_ | refine X_G2tt ?_ | refine X_G2ff ?_ | refine X_G2tf ?_ | refine X_G2ft ?_ | refine X_G2u ?_ | refine X_GRtt ?_ | refine X_GRff ?_ | refine X_GRtf ?_ | refine X_GRft ?_ | refine X_GRu ?_ | refine X_fn ?_) | ((with_reducible first | apply X_Pu | apply X_Nb | apply X_Pp); (case h => first | ((try simp [q0, q1, q2]) <;> (with_reducible first | exact (Is_rfl : Is (some (AV.bool true)) _) | exact (Is_rfl : Is (some (AV.bool false)) _) | ((fail_if_success exact Is_b); exact Is_rfl))) | ((try simp (disch := (first | assumption | omega | (simp <;> omega) | fail)) [SW, SA, SV, if_pos, if_neg, dec_t, dec_f, q0, q1, q2]) <;> (with_reducible first | exact (Is_rfl : Is (some (AV.bool true)) _) | exact (Is_rfl : Is (some (AV.bool false)) _) | ((fail_if_success exact Is_b); exact Is_rfl))))) | ((with_reducible apply X_And); (case h => first | (simp [q0, q1, q2]; done) | (simp (disch := (first | assumption | omega | (simp <;> omega) | fail)) [SW, SA, SV, if_pos, if_neg, dec_t, dec_f, q0, q1, q2]; done))))); exact kk) : G := h q0 q1 q2 k
theorem rr4 {A0 A1 A2 A3 G1 G : Prop} (q0 : A0) (q1 : A1) (q2 : A2) (q3 : A3) (k : G1) (h : A0 → A1 → A2 → A3 → G1 → G := by intro q0 q1 q2 q3 kk; (repeat (first | (with_reducible first | refine X_Jn ?_ | refine X_BrT ?_ | refine X_BrF ?_ | refine X_Nw ?_ | refine X_Cq ?_ | refine X_Gtt ?_ | refine X_Gff ?_ | refine X_Gtf ?_ | refine X_Gft ?_ | refine X_Gu ?_ | refine X_G2tt ?_ | refine X_G2ff ?_ | refine X_G2tf ?_ | refine X_G2ft ?_ | refine X_G2u ?_ | refine X_GRtt ?_ | refine X_GRff ?_ | refine X_GRtf ?_ | refine X_GRft ?_ | refine X_GRu ?_ | refine X_fn ?_) | ((with_reducible first | apply X_Pu | apply X_Nb | apply X_Pp); (case h => first | ((try simp [q0, q1, q2, q3]) <;> (with_reducible first | exact (Is_rfl : Is (some (AV.bool true)) _) | exact (Is_rfl : Is (some (AV.bool false)) _) | ((fail_if_success exact Is_b); exact Is_rfl))) | ((try simp (disch := (first | assumption | omega | (simp <;> omega) | fail)) [SW, SA, SV, if_pos, if_neg, dec_t, dec_f, q0, q1, q2, q3]) <;> (with_reducible first | exact (Is_rfl : Is (some (AV.bool true)) _) | exact (Is_rfl : Is (some (AV.bool false)) _) | ((fail_if_success exact Is_b); exact Is_rfl))))) | ((with_reducible apply X_And); (case h => first | (simp [q0, q1, q2, q3]; done) | (simp (disch := (first | assumption | omega | (simp <;> omega) | fail)) [SW, SA, SV, if_pos, if_neg, dec_t, dec_f, q0, q1, q2, q3]; done))))); exact kk) : G := h q0 q1 q2 q3 k
theorem rr5 {A0 A1 A2 A3 A4 G1 G : Prop} (q0 : A0) (q1 : A1) (q2 : A2) (q3 : A3) (q4 : A4) (k : G1) (h : A0 → A1 → A2 → A3 → A4 → G1 → G := by intro q0 q1 q2 q3 q4 kk; (repeat (first | (with_reducible first | refine X_Jn ?_ | refine X_BrT ?_ | refine X_BrF ?_ | refine X_Nw ?_ | refine X_Cq ?_ | refine X_Gtt ?_ | refine X_Gff ?_ | refine X_Gtf ?_ | refine X_Gft ?_ | refine X_Gu ?_ | refine X_G2tt ?_ | refine X_G2ff ?_ | refine X_G2tf ?_ | refine X_G2ft ?_ | refine X_G2u ?_ | refine X_GRtt ?_ | refine X_GRff ?_ | refine X_GRtf ?_ | refine X_GRft ?_ | refine X_GRu ?_ | refine X_fn ?_) | ((with_reducible first | apply X_Pu | apply X_Nb | apply X_Pp); (case h => first | ((try simp [q0, q1, q2, q3, q4]) <;> (with_reducible first | exact (Is_rfl : Is (some (AV.bool true)) _) | exact (Is_rfl : Is (some (AV.bool false)) _) | ((fail_if_success exact Is_b); exact Is_rfl))) | ((try simp (disch := (first | assumption | omega | (simp <;> omega) | fail)) [SW, SA, SV, if_pos, if_neg, dec_t, dec_f, q0, q1, q2, q3, q4]) <;> (with_reducible first | exact (Is_rfl : Is (some (AV.bool true)) _) | exact (Is_rfl : Is (some (AV.bool false)) _) | ((fail_if_success exact Is_b); exact Is_rfl))))) | ((with_reducible apply X_And); (case h => first | (simp [q0, q1, q2, q3, q4]; done) | (simp (disch := (first | assumption | omega | (simp <;> omega) | fail)) [SW, SA, SV, if_pos, if_neg, dec_t, dec_f, q0, q1, q2, q3, q4]; done))))); exact kk) : G := h q0 q1 q2 q3 q4 k
theorem rr6 {A0 A1 A2 A3 A4 A5 G1 G : Prop} (q0 : A0) (q1 : A1) (q2 : A2) (q3 : A3) (q4 : A4) (q5 : A5) (k : G1) (h : A0 → A1 → A2 → A3 → A4 → A5 → G1 → G := by intro q0 q1 q2 q3 q4 q5 kk; (repeat (first | (with_reducible first | refine X_Jn ?_ | refine X_BrT ?_ | refine X_BrF ?_ | refine X_Nw ?_ | refine X_Cq ?_ | refine X_Gtt ?_ | refine X_Gff ?_ | refine X_Gtf ?_ | refine X_Gft ?_ | refine X_Gu ?_ | refine X_G2tt ?_ | refine X_G2ff ?_ | refine X_G2tf ?_ | refine X_G2ft ?_ | refine X_G2u ?_ | refine X_GRtt ?_ | refine X_GRff ?_ | refine X_GRtf ?_ | refine X_GRft ?_ | refine X_GRu ?_ | refine X_fn ?_) | ((with_reducible first | apply X_Pu | apply X_Nb | apply X_Pp); (case h => first | ((try simp [q0, q1, q2, q3, q4, q5]) <;> (with_reducible first | exact (Is_rfl : Is (some (AV.bool true)) _) | exact (Is_rfl : Is (some (AV.bool false)) _) | ((fail_if_success exact Is_b); exact Is_rfl))) | ((try simp (disch := (first | assumption | omega | (simp <;> omega) | fail)) [SW, SA, SV, if_pos, if_neg, dec_t, dec_f, q0, q1, q2, q3, q4, q5]) <;> (with_reducible first | exact (Is_rfl : Is (some (AV.bool true)) _) | exact (Is_rfl : Is (some (AV.bool false)) _) | ((fail_if_success exact Is_b); exact Is_rfl))))) | ((with_reducible apply X_And); (case h => first | (simp [q0, q1, q2, q3, q4, q5]; done) | (simp (disch := (first | assumption | omega | (simp <;> omega) | fail)) [SW, SA, SV, if_pos, if_neg, dec_t, dec_f, q0, q1, q2, q3, q4, q5]; done))))); exact kk) : G := h q0 q1 q2 q3 q4 q5 k
theorem rr7 {A0 A1 A2 A3 A4 A5 A6 G1 G : Prop} (q0 : A0) (q1 : A1) (q2 : A2) (q3 : A3) (q4 : A4) (q5 : A5) (q6 : A6) (k : G1) (h : A0 → A1 → A2 → A3 → A4 → A5 → A6 → G1 → G := by intro q0 q1 q2 q3 q4 q5 q6 kk; (repeat (first | (with_reducible first | refine X_Jn ?_ | refine X_BrT ?_ | refine X_BrF ?_ | refine X_Nw ?_ | refine X_Cq ?_ | refine X_Gtt ?_ | refine X_Gff ?_ | refine X_Gtf ?_ | refine X_Gft ?_ | refine X_Gu ?_ | refine X_G2tt ?_ | refine X_G2ff ?_ | refine X_G2tf ?_ | refine X_G2ft ?_ | refine X_G2u ?_ | refine X_GRtt ?_ | refine X_GRff ?_ | refine X_GRtf ?_ | refine X_GRft ?_ | refine X_GRu ?_ | refine X_fn ?_) | ((with_reducible first | apply X_Pu | apply X_Nb | apply X_Pp); (case h => first | ((try simp [q0, q1, q2, q3, q4, q5, q6]) <;> (with_reducible first | exact (Is_rfl : Is (some (AV.bool true)) _) | exact (Is_rfl : Is (some (AV.bool false)) _) | ((fail_if_success exact Is_b); exact Is_rfl))) | ((try simp (disch := (first | assumption | omega | (simp <;> omega) | fail)) [SW, SA, SV, if_pos, if_neg, dec_t, dec_f, q0, q1, q2, q3, q4, q5, q6]) <;> (with_reducible first | exact (Is_rfl : Is (some (AV.bool true)) _) | exact (Is_rfl : Is (some (AV.bool false)) _) | ((fail_if_success exact Is_b); exact Is_rfl))))) | ((with_reducible apply X_And); (case h => first | (simp [q0, q1, q2, q3, q4, q5, q6]; done) | (simp (disch := (first | assumption | omega | (simp <;> omega) | fail)) [SW, SA, SV, if_pos, if_neg, dec_t, dec_f, q0, q1, q2, q3, q4, q5, q6]; done))))); exact kk) : G := h q0 q1 q2 q3 q4 q5 q6 k
theorem rr8 {A0 A1 A2 A3 A4 A5 A6 A7 G1 G : Prop} (q0 : A0) (q1 : A1) (q2 : A2) (q3 : A3) (q4 : A4) (q5 : A5) (q6 : A6) (q7 : A7) (k : G1) (h : A0 → A1 → A2 → A3 → A4 → A5 → A6 → A7 → G1 → G := by intro q0 q1 q2 q3 q4 q5 q6 q7 kk; (repeat (first | (with_reducible first | refine X_Jn ?_ | refine X_BrT ?_ | refine X_BrF ?_ | refine X_Nw ?_ | refine X_Cq ?_ | refine X_Gtt ?_ | refine X_Gff ?_ | refine X_Gtf ?_ | refine X_Gft ?_ | refine X_Gu ?_ | refine X_G2tt ?_ | refine X_G2ff ?_ | refine X_G2tf ?_ | refine X_G2ft ?_ | refine X_G2u ?_ | refine X_GRtt ?_ | refine X_GRff ?_ | refine X_GRtf ?_ | refine X_GRft ?_ | refine X_GRu ?_ | refine X_fn ?_) | ((with_reducible first | apply X_Pu | apply X_Nb | apply X_Pp); (case h => first | ((try simp [q0, q1, q2, q3, q4, q5, q6, q7]) <;> (with_reducible first | exact (Is_rfl : Is (some (AV.bool true)) _) | exact (Is_rfl : Is (some (AV.bool false)) _) | ((fail_if_success exact Is_b); exact Is_rfl))) | ((try simp (disch := (first | assumption | omega | (simp <;> omega) | fail)) [SW, SA, SV, if_pos, if_neg, dec_t, dec_f, q0, q1, q2, q3, q4, q5, q6, q7]) <;> (with_reducible first | exact (Is_rfl : Is (some (AV.bool true)) _) | exact (Is_rfl : Is (some (AV.bool false)) _) | ((fail_if_success exact Is_b); exact Is_rfl))))) | ((with_reducible apply X_And); (case h => first | (simp [q0, q1, q2, q3, q4, q5, q6, q7]; done) | (simp (disch := (first | assumption | omega | (simp <;> omega) | fail)) [SW, SA, SV, if_pos, if_neg, dec_t, dec_f, q0, q1, q2, q3, q4, q5, q6, q7]; done))))); exact kk) : G := h q0 q1 q2 q3 q4 q5 q6 q7 k
theorem rr9 {A0 A1 A2 A3 A4 A5 A6 A7 A8 G1 G : Prop} (q0 : A0) (q1 : A1) (q2 : A2) (q3 : A3) (q4 : A4) (q5 : A5) (q6 : A6) (q7 : A7) (q8 : A8) (k : G1) (h : A0 → A1 → A2 → A3 → A4 → A5 → A6 → A7 → A8 → G1 → G := by intro q0 q1 q2 q3 q4 q5 q6 q7 q8 kk; (repeat (first | (with_reducible first | refine X_Jn ?_ | refine X_BrT ?_ | refine X_BrF ?_ | refine X_Nw ?_ | refine X_Cq ?_ | refine X_Gtt ?_ | refine X_Gff ?_ | refine X_Gtf ?_ | refine X_Gft ?_ | refine X_Gu ?_ | refine X_G2tt ?_ | refine X_G2ff ?_ | refine X_G2tf ?_ | refine X_G2ft ?_ | refine X_G2u ?_ | refine X_GRtt ?_ | refine X_GRff ?_ | refine X_GRtf ?_ | refine X_GRft ?_ | refine X_GRu ?_ | refine X_fn ?_) | ((with_reducible first | apply X_Pu | apply X_Nb | apply X_Pp); (case h => first | ((try simp [q0, q1, q2, q3, q4, q5, q6, q7, q8]) <;> (with_reducible first | exact (Is_rfl : Is (some (AV.bool true)) _) | exact (Is_rfl : Is (some (AV.bool false)) _) | ((fail_if_success exact Is_b); exact Is_rfl))) | ((try simp (disch := (first | assumption | omega | (simp <;> omega) | fail)) [SW, SA, SV, if_pos, if_neg, dec_t, dec_f, q0, q1, q2, q3, q4, q5, q6, q7, q8]) <;> (with_reducible first | exact (Is_rfl : Is (some (AV.bool true)) _) | exact (Is_rfl : Is (some (AV.bool false)) _) | ((fail_if_success exact Is_b); exact Is_rfl))))) | ((with_reducible apply X_And); (case h => first | (simp [q0, q1, q2, q3, q4, q5, q6, q7, q8]; done) | (simp (disch := (first | assumption | omega | (simp <;> omega) | fail)) [SW, SA, SV, if_pos, if_neg, dec_t, dec_f, q0, q1, q2, q3, q4, q5, q6, q7, q8]; done))))); exact kk) : G := h q0 q1 q2 q3 q4 q5 q6 q7 q8 k
theorem rr10 {A0 A1 A2 A3 A4 A5 A6 A7 A8 A9 G1 G : Prop} (q0 : A0) (q1 : A1) (q2 : A2) (q3 : A3) (q4 : A4) (q5 : A5) (q6 : A6) (q7 : A7) (q8 : A8) (q9 : A9) (k : G1) (h : A0 → A1 → A2 → A3 → A4 → A5 → A6 → A7 → A8 → A9 → G1 → G := by intro q0 q1 q2 q3 q4 q5 q6 q7 q8 q9 kk; (repeat (first | (with_reducible first | refine X_Jn ?_ | refine X_BrT ?_ | refine X_BrF ?_ | refine X_Nw ?_ | refine X_Cq ?_ | refine X_Gtt ?_ | refine X_Gff ?_ | refine X_Gtf ?_ | refine X_Gft ?_ | refine X_Gu ?_ | refine X_G2tt ?_ | refine X_G2ff ?_ | refine X_G2tf ?_ | refine X_G2ft ?_ | refine X_G2u ?_ | refine X_GRtt ?_ | refine X_GRff ?_ | refine X_GRtf ?_ | refine X_GRft ?_ | refine X_GRu ?_ | refine X_fn ?_) | ((with_reducible first | apply X_Pu | apply X_Nb | apply X_Pp); (case h => first | ((try simp [q0, q1, q2, q3, q4, q5, q6, q7, q8, q9]) <;> (with_reducible first | exact (Is_rfl : Is (some (AV.bool true)) _) | exact (Is_rfl : Is (some (AV.bool false)) _) | ((fail_if_success exact Is_b); exact Is_rfl))) | ((try simp (disch := (first | assumption | omega | (simp <;> omega) | fail)) [SW, SA, SV, if_pos, if_neg, dec_t, dec_f, q0, q1, q2, q3, q4, q5, q6, q7, q8, q9]) <;> (with_reducible first | exact (Is_rfl : Is (some (AV.bool true)) _) | exact (Is_rfl : Is (some (AV.bool false)) _) | ((fail_if_success exact Is_b); exact Is_rfl))))) | ((with_reducible apply X_And); (case h => first | (simp [q0, q1, q2, q3, q4, q5, q6, q7, q8, q9]; done) | (simp (disch := (first | assumption | omega | (simp <;> omega) | fail)) [SW, SA, SV, if_pos, if_neg, dec_t, dec_f, q0, q1, q2, q3, q4, q5, q6, q7, q8, q9]; done))))); exact kk) : G := h q0 q1 q2 q3 q4 q5 q6 q7 q8 q9 k
theorem rr11 {A0 A1 A2 A3 A4 A5 A6 A7 A8 A9 A10 G1 G : Prop} (q0 : A0) (q1 : A1) (q2 : A2) (q3 : A3) (q4 : A4) (q5 : A5) (q6 : A6) (q7 : A7) (q8 : A8) (q9 : A9) (q10 : A10) (k : G1) (h : A0 → A1 → A2 → A3 → A4 → A5 → A6 → A7 → A8 → A9 → A10 → G1 → G := by intro q0 q1 q2 q3 q4 q5 q6 q7 q8 q9 q10 kk; (repeat (first | (with_reducible first | refine X_Jn ?_ | refine X_BrT ?_ | refine X_BrF ?_ | refine X_Nw ?_ | refine X_Cq ?_ | refine X_Gtt ?_ | refine X_Gff ?_ | refine X_Gtf ?_ | refine X_Gft ?_ | refine X_Gu ?_ | refine X_G2tt ?_ | refine X_G2ff ?_ | refine X_G2tf ?_ | refine X_G2ft ?_ | refine X_G2u ?_ | refine X_GRtt ?_ | refine X_GRff ?_ | refine X_GRtf ?_ | refine X_GRft ?_ | refine X_GRu ?_ | refine X_fn ?_) | ((with_reducible first | apply X_Pu | apply X_Nb | apply X_Pp); (case h => first | ((try simp [q0, q1, q2, q3, q4, q5, q6, q7, q8, q9, q10]) <;> (with_reducible first | exact (Is_rfl : Is (some (AV.bool true)) _) | exact (Is_rfl : Is (some (AV.bool false)) _) | ((fail_if_success exact Is_b); exact Is_rfl))) | ((try simp (disch := (first | assumption | omega | (simp <;> omega) | fail)) [SW, SA, SV, if_pos, if_neg, dec_t, dec_f, q0, q1, q2, q3, q4, q5, q6, q7, q8, q9, q10]) <;> (with_reducible first | exact (Is_rfl : Is (some (AV.bool true)) _) | exact (Is_rfl : Is (some (AV.bool false)) _) | ((fail_if_success exact Is_b); exact Is_rfl))))) | ((with_reducible apply X_And); (case h => first | (simp [q0, q1, q2, q3, q4, q5, q6, q7, q8, q9, q10]; done) | (simp (disch := (first | assumption | omega | (simp <;> omega) | fail)) [SW, SA, SV, if_pos, if_neg, dec_t, dec_f, q0, q1, q2, q3, q4, q5, q6, q7, q8, q9, q10]; done))))); exact kk) : G := h q0 q1 q2 q3 q4 q5 q6 q7 q8 q9 q10 k
theorem rr12 {A0 A1 A2 A3 A4 A5 A6 A7 A8 A9 A10 A11 G1 G : Prop} (q0 : A0) (q1 : A1) (q2 : A2) (q3 : A3) (q4 : A4) (q5 : A5) (q6 : A6) (q7 : A7) (q8 : A8) (q9 : A9) (q10 : A10) (q11 : A11) (k : G1) (h : A0 → A1 → A2 → A3 → A4 → A5 → A6 → A7 → A8 → A9 → A10 → A11 → G1 → G := by intro q0 q1 q2 q3 q4 q5 q6 q7 q8 q9 q10 q11 kk; (repeat (first | (with_reducible first | refine X_Jn ?_ | refine X_BrT ?_ | refine X_BrF ?_ | refine X_Nw ?_ | refine X_Cq ?_ | refine X_Gtt ?_ | refine X_Gff ?_ | refine X_Gtf ?_ | refine X_Gft ?_ | refine X_Gu ?_ | refine X_G2tt ?_ | refine X_G2ff ?_ | refine X_G2tf ?_ | refine X_G2ft ?_ | refine X_G2u ?_ | refine X_GRtt ?_ | refine X_GRff ?_ | refine X_GRtf ?_ | refine X_GRft ?_ | refine X_GRu ?_ | refine X_fn ?_) | ((with_reducible first | apply X_Pu | apply X_Nb | apply X_Pp); (case h => first | ((try simp [q0, q1, q2, q3, q4, q5, q6, q7, q8, q9, q10, q11]) <;> (with_reducible first | exact (Is_rfl : Is (some (AV.bool true)) _) | exact (Is_rfl : Is (some (AV.bool false)) _) | ((fail_if_success exact Is_b); exact Is_rfl))) | ((try simp (disch := (first | assumption | omega | (simp <;> omega) | fail)) [SW, SA, SV, if_pos, if_neg, dec_t, dec_f, q0, q1, q2, q3, q4, q5, q6, q7, q8, q9, q10, q11]) <;> (with_reducible first | exact (Is_rfl : Is (some (AV.bool true)) _) | exact (Is_rfl : Is (some (AV.bool false)) _) | ((fail_if_success exact Is_b); exact Is_rfl))))) | ((with_reducible apply X_And); (case h => first | (simp [q0, q1, q2, q3, q4, q5, q6, q7, q8, q9, q10, q11]; done) | (simp (disch := (first | assumption | omega | (simp <;> omega) | fail)) [SW, SA, SV, if_pos, if_neg, dec_t, dec_f, q0, q1, q2, q3, q4, q5, q6, q7, q8, q9, q10, q11]; done))))); exact kk) : G := h q0 q1 q2 q3 q4 q5 q6 q7 q8 q9 q10 q11 k
theorem rd0 { G1 G : Prop} (k : G1) (h : G1 → G := by intro kk; (repeat (first | (with_reducible first | refine X_Jn ?_ | refine X_BrT ?_ | refine X_BrF ?_ | refine X_Nw ?_ | refine X_Cq ?_ | refine X_Gtt ?_ | refine X_Gff ?_ | refine X_Gtf ?_ | refine X_Gft ?_ | refine X_Gu ?_ | refine X_G2tt ?_ | refine X_G2ff ?_ | refine X_G2tf ?_ | refine X_G2ft ?_ | refine X_G2u ?_ | refine X_GRtt ?_ | refine X_GRff ?_ | refine X_GRtf ?_ | refine X_GRft ?_ | refine X_GRu ?_ | refine X_fn ?_) | ((with_reducible first | apply X_Pu | apply X_Nb | apply X_Pp); (case h => first | ((try simp [bdS, bdL]) <;> (with_reducible first | exact (Is_rfl : Is (some (AV.bool true)) _) | exact (Is_rfl : Is (some (AV.bool false)) _) | ((fail_if_success exact Is_b); exact Is_rfl))) | ((try simp (disch := (first | assumption | omega | (simp <;> omega) | fail)) [SW, SA, SV, if_pos, if_neg, dec_t, dec_f, bdS, bdL]) <;> (with_reducible first | exact (Is_rfl : Is (some (AV.bool true)) _) | exact (Is_rfl : Is (some (AV.bool false)) _) | ((fail_if_success exact Is_b); exact Is_rfl))))) | ((with_reducible apply X_And); (case h => first | (simp [bdS, bdL]; done) | (simp (disch := (first | assumption | omega | (simp <;> omega) | fail)) [SW, SA, SV, if_pos, if_neg, dec_t, dec_f, bdS, bdL]; done))))); exact kk) : G := h  k
theorem rd1 {A0 G1 G : Prop} (q0 : A0) (k : G1) (h : A0 → G1 → G := by intro q0 kk; (repeat (first | (with_reducible first | refine X_Jn ?_ | refine X_BrT ?_ | refine X_BrF ?_ | refine X_Nw ?_ | refine X_Cq ?_ | refine X_Gtt ?_ | refine X_Gff ?_ | refine X_Gtf ?_ | refine X_Gft ?_ | refine X_Gu ?_ | refine X_G2tt ?_ | refine X_G2ff ?_ | refine X_G2tf ?_ | refine X_G2ft ?_ | refine X_G2u ?_ | refine X_GRtt ?_ | refine X_GRff ?_ | refine X_GRtf ?_ | refine X_GRft ?_ | refine X_GRu ?_ | refine X_fn ?_) | ((with_reducible first | apply X_Pu | apply X_Nb | apply X_Pp); (case h => first | ((try simp [bdS, bdL, q0]) <;> (with_reducible first | exact (Is_rfl : Is (some (AV.bool true)) _) | exact (Is_rfl : Is (some (AV.bool false)) _) | ((fail_if_success exact Is_b); exact Is_rfl))) | ((try simp (disch := (first | assumption | omega | (simp <;> omega) | fail)) [SW, SA, SV, if_pos, if_neg, dec_t, dec_f, bdS, bdL, q0]) <;> (with_reducible first | exact (Is_rfl : Is (some (AV.bool true)) _) | exact (Is_rfl : Is (some (AV.bool false)) _) | ((fail_if_success exact Is_b); exact Is_rfl))))) | ((with_reducible apply X_And); (case h => first | (simp [bdS, bdL, q0]; done) | (simp (disch := (first | assumption | omega | (simp <;> omega) | fail)) [SW, SA, SV, if_pos, if_neg, dec_t, dec_f, bdS, bdL, q0]; done))))); exact kk) : G := h q0 k
theorem rd2 {A0 A1 G1 G : Prop} (q0 : A0) (q1 : A1) (k : G1) (h : A0 → A1 → G1 → G := by intro q0 q1 kk; (repeat (first | (with_reducible first | refine X_Jn ?_ | refine X_BrT ?_ | refine X_BrF ?_ | refine X_Nw ?_ | refine X_Cq ?_ | refine X_Gtt ?_ | refine X_Gff ?_ | refine X_Gtf ?_ | refine X_Gft ?_ | refine X_Gu ?_ | refine X_G2tt ?_ | refine X_G2ff ?_ | refine X_G2tf ?_ | refine X_G2ft ?_ | refine X_G2u ?_ | refine X_GRtt ?_ | refine X_GRff ?_ | refine X_GRtf ?_ | refine X_GRft ?_ | refine X_GRu ?_ | refine X_fn ?_) | ((with_reducible first | apply X_Pu | apply X_Nb | apply X_Pp); (case h => first | ((try simp [bdS, bdL, q0, q1]) <;> (with_reducible first | exact (Is_rfl : Is (some (AV.bool true)) _) | exact (Is_rfl : Is (some (AV.bool false)) _) | ((fail_if_success exact Is_b); exact Is_rfl))) | ((try simp (disch := (first | assumption | omega | (simp <;> omega) | fail)) [SW, SA, SV, if_pos, if_neg, dec_t, dec_f, bdS, bdL, q0, q1]) <;> (with_reducible first | exact (Is_rfl : Is (some (AV.bool true)) _) | exact (Is_rfl : Is (some (AV.bool false)) _) | ((fail_if_success exact Is_b); exact Is_rfl))))) | ((with_reducible apply X_And); (case h => first | (simp [bdS, bdL, q0, q1]; done) | (simp (disch := (first | assumption | omega | (simp <;> omega) | fail)) [SW, SA, SV, if_pos, if_neg, dec_t, dec_f, bdS, bdL, q0, q1]; done))))); exact kk) : G := h q0 q1 k
theorem rd3 {A0 A1 A2 G1 G : Prop} (q0 : A0) (q1 : A1) (q2 : A2) (k : G1) (h : A0 → A1 → A2 → G1 → G := by intro q0 q1 q2 kk; (repeat (first | (with_reducible first | refine X_Jn ?_ | refine X_BrT ?_ | refine X_BrF ?_ | refine X_Nw ?_ | refine X_Cq ?_ | refine X_Gtt ?_ | refine X_Gff ?_ | refine X_Gtf ?_ | refine X_Gft ?_ | refine X_Gu ?_ | refine X_G2tt ?_ | refine X_G2ff ?_ | refine X_G2tf ?_ | refine X_G2ft ?_ | refine X_G2u ?_ | refine X_GRtt ?_ | refine X_GRff ?_ | refine X_GRtf ?_ | refine X_GRft ?_ | refine X_GRu ?_ | refine X_fn ?_) | ((with_reducible first | apply X_Pu | apply X_Nb | apply X_Pp); (case h => first | ((try simp [bdS, bdL, q0, q1, q2]) <;> (with_reducible first | exact (Is_rfl : Is (some (AV.bool true)) _) | exact (Is_rfl : Is (some (AV.bool false)) _) | ((fail_if_success exact Is_b); exact Is_rfl))) | ((try simp (disch := (first | assumption | omega | (simp <;> omega) | fail)) [SW, SA, SV, if_pos, if_neg, dec_t, dec_f, bdS, bdL, q0, q1, q2]) <;> (with_reducible first | exact (Is_rfl : Is (some (AV.bool true)) _) | exact (Is_rfl : Is (some (AV.bool false)) _) | ((fail_if_success exact Is_b); exact Is_rfl))))) | ((with_reducible apply X_And); (case h => first | (simp [bdS, bdL, q0, q1, q2]; done) | (simp (disch := (first | assumption | omega | (simp <;> omega) | fail)) [SW, SA, SV, if_pos, if_neg, dec_t, dec_f, bdS, bdL, q0, q1, q2]; done))))); exact kk) : G := h q0 q1 q2 k
theorem rd4 {A0 A1 A2 A3 G1 G : Prop} (q0 : A0) (q1 : A1) (q2 : A2) (q3 : A3) (k : G1) (h : A0 → A1 → A2 → A3 → G1 → G := by intro q0 q1 q2 q3 kk; (repeat (first | (with_reducible first | refine X_Jn ?_ | refine X_BrT ?_ | refine X_BrF ?_ | refine X_Nw ?_ | refine X_Cq ?_ | refine X_Gtt ?_ | refine X_Gff ?_ | refine X_Gtf ?_ | refine X_Gft ?_ | refine X_Gu ?_ | refine X_G2tt ?_ | refine X_G2ff ?_ | refine X_G2tf ?_ | refine X_G2ft ?_ | refine X_G2u ?_ | refine X_GRtt ?_ | refine X_GRff ?_ | refine X_GRtf ?_ | refine X_GRft ?_ | refine X_GRu ?_ | refine X_fn ?_) | ((with_reducible first | apply X_Pu | apply X_Nb | apply X_Pp); (case h => first | ((try simp [bdS, bdL, q0, q1, q2, q3]) <;> (with_reducible first | exact (Is_rfl : Is (some (AV.bool true)) _) | exact (Is_rfl : Is (some (AV.bool false)) _) | ((fail_if_success exact Is_b); exact Is_rfl))) | ((try simp (disch := (first | assumption | omega | (simp <;> omega) | fail)) [SW, SA, SV, if_pos, if_neg, dec_t, dec_f, bdS, bdL, q0, q1, q2, q3]) <;> (with_reducible first | exact (Is_rfl : Is (some (AV.bool true)) _) | exact (Is_rfl : Is (some (AV.bool false)) _) | ((fail_if_success exact Is_b); exact Is_rfl))))) | ((with_reducible apply X_And); (case h => first | (simp [bdS, bdL, q0, q1, q2, q3]; done) | (simp (disch := (first | assumption | omega | (simp <;> omega) | fail)) [SW, SA, SV, if_pos, if_neg, dec_t, dec_f, bdS, bdL, q0, q1, q2, q3]; done))))); exact kk) : G := h q0 q1 q2 q3 k
theorem rd5 {A0 A1 A2 A3 A4 G1 G : Prop} (q0 : A0) (q1 : A1) (q2 : A2) (q3 : A3) (q4 : A4) (k : G1) (h : A0 → A1 → A2 → A3 → A4 → G1 → G := by intro q0 q1 q2 q3 q4 kk; (repeat (first | (with_reducible first | refine X_Jn ?_ | refine X_BrT ?_ | refine X_BrF ?_ | refine X_Nw ?_ | refine X_Cq ?_ | refine X_Gtt ?_ | refine X_Gff ?_ | refine X_Gtf ?_ | refine X_Gft ?_ | refine X_Gu ?_ | refine X_G2tt ?_ | refine X_G2ff ?_ | refine X_G2tf ?_ | refine X_G2ft ?_ | refine X_G2u ?_ | refine X_GRtt ?_ | refine X_GRff ?_ | refine X_GRtf ?_ | refine X_GRft ?_ | refine X_GRu ?_ | refine X_fn ?_) | ((with_reducible first | apply X_Pu | apply X_Nb | apply X_Pp); (case h => first | ((try simp [bdS, bdL, q0, q1, q2, q3, q4]) <;> (with_reducible first | exact (Is_rfl : Is (some (AV.bool true)) _) | exact (Is_rfl : Is (some (AV.bool false)) _) | ((fail_if_success exact Is_b); exact Is_rfl))) | ((try simp (disch := (first | assumption | omega | (simp <;> omega) | fail)) [SW, SA, SV, if_pos, if_neg, dec_t, dec_f, bdS, bdL, q0, q1, q2, q3, q4]) <;> (with_reducible first | exact (Is_rfl : Is (some (AV.bool true)) _) | exact (Is_rfl : Is (some (AV.bool false)) _) | ((fail_if_success exact Is_b); exact Is_rfl))))) | ((with_reducible apply X_And); (case h => first | (simp [bdS, bdL, q0, q1, q2, q3, q4]; done) | (simp (disch := (first | assumption | omega | (simp <;> omega) | fail)) [SW, SA, SV, if_pos, if_neg, dec_t, dec_f, bdS, bdL, q0, q1, q2, q3, q4]; done))))); exact kk) : G := h q0 q1 q2 q3 q4 k
theorem rd6 {A0 A1 A2 A3 A4 A5 G1 G : Prop} (q0 : A0) (q1 : A1) (q2 : A2) (q3 : A3) (q4 : A4) (q5 : A5) (k : G1) (h : A0 → A1 → A2 → A3 → A4 → A5 → G1 → G := by intro q0 q1 q2 q3 q4 q5 kk; (repeat (first | (with_reducible first | refine X_Jn ?_ | refine X_BrT ?_ | refine X_BrF ?_ | refine X_Nw ?_ | refine X_Cq ?_ | refine X_Gtt ?_ | refine X_Gff ?_ | refine X_Gtf ?_ | refine X_Gft ?_ | refine X_Gu ?_ | refine X_G2tt ?_ | refine X_G2ff ?_ | refine X_G2tf ?_ | refine X_G2ft ?_ | refine X_G2u ?_ | refine X_GRtt ?_ | refine X_GRff ?_ | refine X_GRtf ?_ | refine X_GRft ?_ | refine X_GRu ?_ | refine X_fn ?_) | ((with_reducible first | apply X_Pu | apply X_Nb | apply X_Pp); (case h => first | ((try simp [bdS, bdL, q0, q1, q2, q3, q4, q5]) <;> (with_reducible first | exact (Is_rfl : Is (some (AV.bool true)) _) | exact (Is_rfl : Is (some (AV.bool false)) _) | ((fail_if_success exact Is_b); exact Is_rfl))) | ((try simp (disch := (first | assumption | omega | (simp <;> omega) | fail)) [SW, SA, SV, if_pos, if_neg, dec_t, dec_f, bdS, bdL, q0, q1, q2, q3, q4, q5]) <;> (with_reducible first | exact (Is_rfl : Is (some (AV.bool true)) _) | exact (Is_rfl : Is (some (AV.bool false)) _) | ((fail_if_success exact Is_b); exact Is_rfl))))) | ((with_reducible apply X_And); (case h => first | (simp [bdS, bdL, q0, q1, q2, q3, q4, q5]; done) | (simp (disch := (first | assumption | omega | (simp <;> omega) | fail)) [SW, SA, SV, if_pos, if_neg, dec_t, dec_f, bdS, bdL, q0, q1, q2, q3, q4, q5]; done))))); exact kk) : G := h q0 q1 q2 q3 q4 q5 k
theorem rd7 {A0 A1 A2 A3 A4 A5 A6 G1 G : Prop} (q0 : A0) (q1 : A1) (q2 : A2) (q3 : A3) (q4 : A4) (q5 : A5) (q6 : A6) (k : G1) (h : A0 → A1 → A2 → A3 → A4 → A5 → A6 → G1 → G := by intro q0 q1 q2 q3 q4 q5 q6 kk; (repeat (first | (with_reducible first | refine X_Jn ?_ | refine X_BrT ?_ | refine X_BrF ?_ | refine X_Nw ?_ | refine X_Cq ?_ | refine X_Gtt ?_ | refine X_Gff ?_ | refine X_Gtf ?_ | refine X_Gft ?_ | refine X_Gu ?_ | refine X_G2tt ?_ | refine X_G2ff ?_ | refine X_G2tf ?_ | refine X_G2ft ?_ | refine X_G2u ?_ | refine X_GRtt ?_ | refine X_GRff ?_ | refine X_GRtf ?_ | refine X_GRft ?_ | refine X_GRu ?_ | refine X_fn ?_) | ((with_reducible first | apply X_Pu | apply X_Nb | apply X_Pp); (case h => first | ((try simp [bdS, bdL, q0, q1, q2, q3, q4, q5, q6]) <;> (with_reducible first | exact (Is_rfl : Is (some (AV.bool true)) _) | exact (Is_rfl : Is (some (AV.bool false)) _) | ((fail_if_success exact Is_b); exact Is_rfl))) | ((try simp (disch := (first | assumption | omega | (simp <;> omega) | fail)) [SW, SA, SV, if_pos, if_neg, dec_t, dec_f, bdS, bdL, q0, q1, q2, q3, q4, q5, q6]) <;> (with_reducible first | exact (Is_rfl : Is (some (AV.bool true)) _) | exact (Is_rfl : Is (some (AV.bool false)) _) | ((fail_if_success exact Is_b); exact Is_rfl))))) | ((with_reducible apply X_And); (case h => first | (simp [bdS, bdL, q0, q1, q2, q3, q4, q5, q6]; done) | (simp (disch := (first | assumption | omega | (simp <;> omega) | fail)) [SW, SA, SV, if_pos, if_neg, dec_t, dec_f, bdS, bdL, q0, q1, q2, q3, q4, q5, q6]; done))))); exact kk) : G := h q0 q1 q2 q3 q4 q5 q6 k
theorem rd8 {A0 A1 A2 A3 A4 A5 A6 A7 G1 G : Prop} (q0 : A0) (q1 : A1) (q2 : A2) (q3 : A3) (q4 : A4) (q5 : A5) (q6 : A6) (q7 : A7) (k : G1) (h : A0 → A1 → A2 → A3 → A4 → A5 → A6 → A7 → G1 → G := by intro q0 q1 q2 q3 q4 q5 q6 q7 kk; (repeat (first | (with_reducible first | refine X_Jn ?_ | refine X_BrT ?_ | refine X_BrF ?_ | refine X_Nw ?_ | refine X_Cq ?_ | refine X_Gtt ?_ | refine X_Gff ?_ | refine X_Gtf ?_ | refine X_Gft ?_ | refine X_Gu ?_ | refine X_G2tt ?_ | refine X_G2ff ?_ | refine X_G2tf ?_ | refine X_G2ft ?_ | refine X_G2u ?_ | refine X_GRtt ?_ | refine X_GRff ?_ | refine X_GRtf ?_ | refine X_GRft ?_ | refine X_GRu ?_ | refine X_fn ?_) | ((with_reducible first | apply X_Pu | apply X_Nb | apply X_Pp); (case h => first | ((try simp [bdS, bdL, q0, q1, q2, q3, q4, q5, q6, q7]) <;> (with_reducible first | exact (Is_rfl : Is (some (AV.bool true)) _) | exact (Is_rfl : Is (some (AV.bool false)) _) | ((fail_if_success exact Is_b); exact Is_rfl))) | ((try simp (disch := (first | assumption | omega | (simp <;> omega) | fail)) [SW, SA, SV, if_pos, if_neg, dec_t, dec_f, bdS, bdL, q0, q1, q2, q3, q4, q5, q6, q7]) <;> (with_reducible first | exact (Is_rfl : Is (some (AV.bool true)) _) | exact (Is_rfl : Is (some (AV.bool false)) _) | ((fail_if_success exact Is_b); exact Is_rfl))))) | ((with_reducible apply X_And); (case h => first | (simp [bdS, bdL, q0, q1, q2, q3, q4, q5, q6, q7]; done) | (simp (disch := (first | assumption | omega | (simp <;> omega) | fail)) [SW, SA, SV, if_pos, if_neg, dec_t, dec_f, bdS, bdL, q0, q1, q2, q3, q4, q5, q6, q7]; done))))); exact kk) : G := h q0 q1 q2 q3 q4 q5 q6 q7 k
theorem rd9 {A0 A1 A2 A3 A4 A5 A6 A7 A8 G1 G : Prop} (q0 : A0) (q1 : A1) (q2 : A2) (q3 : A3) (q4 : A4) (q5 : A5) (q6 : A6) (q7 : A7) (q8 : A8) (k : G1) (h : A0 → A1 → A2 → A3 → A4 → A5 → A6 → A7 → A8 → G1 → G := by intro q0 q1 q2 q3 q4 q5 q6 q7 q8 kk; (repeat (first | (with_reducible first | refine X_Jn ?_ | refine X_BrT ?_ | refine X_BrF ?_ | refine X_Nw ?_ | refine X_Cq ?_ | refine X_Gtt ?_ | refine X_Gff ?_ | refine X_Gtf ?_ | refine X_Gft ?_ | refine X_Gu ?_ | refine X_G2tt ?_ | refine X_G2ff ?_ | refine X_G2tf ?_ | refine X_G2ft ?_ | refine X_G2u ?_ | refine X_GRtt ?_ | refine X_GRff ?_ | refine X_GRtf ?_ | refine X_GRft ?_ | refine X_GRu ?_ | refine X_fn ?_) | ((with_reducible first | apply X_Pu | apply X_Nb | apply X_Pp); (case h => first | ((try simp [bdS, bdL, q0, q1, q2, q3, q4, q5, q6, q7, q8]) <;> (with_reducible first | exact (Is_rfl : Is (some (AV.bool true)) _) | exact (Is_rfl : Is (some (AV.bool false)) _) | ((fail_if_success exact Is_b); exact Is_rfl))) | ((try simp (disch := (first | assumption | omega | (simp <;> omega) | fail)) [SW, SA, SV, if_pos, if_neg, dec_t, dec_f, bdS, bdL, q0, q1, q2, q3, q4, q5, q6, q7, q8]) <;> (with_reducible first | exact (Is_rfl : Is (some (AV.bool true)) _) | exact (Is_rfl : Is (some (AV.bool false)) _) | ((fail_if_success exact Is_b); exact Is_rfl))))) | ((with_reducible apply X_And); (case h => first | (simp [bdS, bdL, q0, q1, q2, q3, q4, q5, q6, q7, q8]; done) | (simp (disch := (first | assumption | omega | (simp <;> omega) | fail)) [SW, SA, SV, if_pos, if_neg, dec_t, dec_f, bdS, bdL, q0, q1, q2, q3, q4, q5, q6, q7, q8]; done))))); exact kk) : G := h q0 q1 q2 q3 q4 q5 q6 q7 q8 k
theorem rd10 {A0 A1 A2 A3 A4 A5 A6 A7 A8 A9 G1 G : Prop} (q0 : A0) (q1 : A1) (q2 : A2) (q3 : A3) (q4 : A4) (q5 : A5) (q6 : A6) (q7 : A7) (q8 : A8) (q9 : A9) (k : G1) (h : A0 → A1 → A2 → A3 → A4 → A5 → A6 → A7 → A8 → A9 → G1 → G := by intro q0 q1 q2 q3 q4 q5 q6 q7 q8 q9 kk; (repeat (first | (with_reducible first | refine X_Jn ?_ | refine X_BrT ?_ | refine X_BrF ?_ | refine X_Nw ?_ | refine X_Cq ?_ | refine X_Gtt ?_ | refine X_Gff ?_ | refine X_Gtf ?_ | refine X_Gft ?_ | refine X_Gu ?_ | refine X_G2tt ?_ | refine X_G2ff ?_ | refine X_G2tf ?_ | refine X_G2ft ?_ | refine X_G2u ?_ | refine X_GRtt ?_ | refine X_GRff ?_ | refine X_GRtf ?_ | refine X_GRft ?_ | refine X_GRu ?_ | refine X_fn ?_) | ((with_reducible first | apply X_Pu | apply X_Nb | apply X_Pp); (case h => first | ((try simp [bdS, bdL, q0, q1, q2, q3, q4, q5, q6, q7, q8, q9]) <;> (with_reducible first | exact (Is_rfl : Is (some (AV.bool true)) _) | exact (Is_rfl : Is (some (AV.bool false)) _) | ((fail_if_success exact Is_b); exact Is_rfl))) | ((try simp (disch := (first | assumption | omega | (simp <;> omega) | fail)) [SW, SA, SV, if_pos, if_neg, dec_t, dec_f, bdS, bdL, q0, q1, q2, q3, q4, q5, q6, q7, q8, q9]) <;> (with_reducible first | exact (Is_rfl : Is (some (AV.bool true)) _) | exact (Is_rfl : Is (some (AV.bool false)) _) | ((fail_if_success exact Is_b); exact Is_rfl))))) | ((with_reducible apply X_And); (case h => first | (simp [bdS, bdL, q0, q1, q2, q3, q4, q5, q6, q7, q8, q9]; done) | (simp (disch := (first | assumption | omega | (simp <;> omega) | fail)) [SW, SA, SV, if_pos, if_neg, dec_t, dec_f, bdS, bdL, q0, q1, q2, q3, q4, q5, q6, q7, q8, q9]; done))))); exact kk) : G := h q0 q1 q2 q3 q4 q5 q6 q7 q8 q9 k
theorem rd11 {A0 A1 A2 A3 A4 A5 A6 A7 A8 A9 A10 G1 G : Prop} (q0 : A0) (q1 : A1) (q2 : A2) (q3 : A3) (q4 : A4) (q5 : A5) (q6 : A6) (q7 : A7) (q8 : A8) (q9 : A9) (q10 : A10) (k : G1) (h : A0 → A1 → A2 → A3 → A4 → A5 → A6 → A7 → A8 → A9 → A10 → G1 → G := by intro q0 q1 q2 q3 q4 q5 q6 q7 q8 q9 q10 kk; (repeat (first | (with_reducible first | refine X_Jn ?_ | refine X_BrT ?_ | refine X_BrF ?_ | refine X_Nw ?_ | refine X_Cq ?_ | refine X_Gtt ?_ | refine X_Gff ?_ | refine X_Gtf ?_ | refine X_Gft ?_ | refine X_Gu ?_ | refine X_G2tt ?_ | refine X_G2ff ?_ | refine X_G2tf ?_ | refine X_G2ft ?_ | refine X_G2u ?_ | refine X_GRtt ?_ | refine X_GRff ?_ | refine X_GRtf ?_ | refine X_GRft ?_ | refine X_GRu ?_ | refine X_fn ?_) | ((with_reducible first | apply X_Pu | apply X_Nb | apply X_Pp); (case h => first | ((try simp [bdS, bdL, q0, q1, q2, q3, q4, q5, q6, q7, q8, q9, q10]) <;> (with_reducible first | exact (Is_rfl : Is (some (AV.bool true)) _) | exact (Is_rfl : Is (some (AV.bool false)) _) | ((fail_if_success exact Is_b); exact Is_rfl))) | ((try simp (disch := (first | assumption | omega | (simp <;> omega) | fail)) [SW, SA, SV, if_pos, if_neg, dec_t, dec_f, bdS, bdL, q0, q1, q2, q3, q4, q5, q6, q7, q8, q9, q10]) <;> (with_reducible first | exact (Is_rfl : Is (some (AV.bool true)) _) | exact (Is_rfl : Is (some (AV.bool false)) _) | ((fail_if_success exact Is_b); exact Is_rfl))))) | ((with_reducible apply X_And); (case h => first | (simp [bdS, bdL, q0, q1, q2, q3, q4, q5, q6, q7, q8, q9, q10]; done) | (simp (disch := (first | assumption | omega | (simp <;> omega) | fail)) [SW, SA, SV, if_pos, if_neg, dec_t, dec_f, bdS, bdL, q0, q1, q2, q3, q4, q5, q6, q7, q8, q9, q10]; done))))); exact kk) : G := h q0 q1 q2 q3 q4 q5 q6 q7 q8 q9 q10 k
theorem rd12 {A0 A1 A2 A3 A4 A5 A6 A7 A8 A9 A10 A11 G1 G : Prop} (q0 : A0) (q1 : A1) (q2 : A2) (q3 : A3) (q4 : A4) (q5 : A5) (q6 : A6) (q7 : A7) (q8 : A8) (q9 : A9) (q10 : A10) (q11 : A11) (k : G1) (h : A0 → A1 → A2 → A3 → A4 → A5 → A6 → A7 → A8 → A9 → A10 → A11 → G1 → G := by intro q0 q1 q2 q3 q4 q5 q6 q7 q8 q9 q10 q11 kk; (repeat (first | (with_reducible first | refine X_Jn ?_ | refine X_BrT ?_ | refine X_BrF ?_ | refine X_Nw ?_ | refine X_Cq ?_ | refine X_Gtt ?_ | refine X_Gff ?_ | refine X_Gtf ?_ | refine X_Gft ?_ | refine X_Gu ?_ | refine X_G2tt ?_ | refine X_G2ff ?_ | refine X_G2tf ?_ | refine X_G2ft ?_ | refine X_G2u ?_ | refine X_GRtt ?_ | refine X_GRff ?_ | refine X_GRtf ?_ | refine X_GRft ?_ | refine X_GRu ?_ | refine X_fn ?_) | ((with_reducible first | apply X_Pu | apply X_Nb | apply X_Pp); (case h => first | ((try simp [bdS, bdL, q0, q1, q2, q3, q4, q5, q6, q7, q8, q9, q10, q11]) <;> (with_reducible first | exact (Is_rfl : Is (some (AV.bool true)) _) | exact (Is_rfl : Is (some (AV.bool false)) _) | ((fail_if_success exact Is_b); exact Is_rfl))) | ((try simp (disch := (first | assumption | omega | (simp <;> omega) | fail)) [SW, SA, SV, if_pos, if_neg, dec_t, dec_f, bdS, bdL, q0, q1, q2, q3, q4, q5, q6, q7, q8, q9, q10, q11]) <;> (with_reducible first | exact (Is_rfl : Is (some (AV.bool true)) _) | exact (Is_rfl : Is (some (AV.bool false)) _) | ((fail_if_success exact Is_b); exact Is_rfl))))) | ((with_reducible apply X_And); (case h => first | (simp [bdS, bdL, q0, q1, q2, q3, q4, q5, q6, q7, q8, q9, q10, q11]; done) | (simp (disch := (first | assumption | omega | (simp <;> omega) | fail)) [SW, SA, SV, if_pos, if_neg, dec_t, dec_f, bdS, bdL, q0, q1, q2, q3, q4, q5, q6, q7, q8, q9, q10, q11]; done))))); exact kk) : G := h q0 q1 q2 q3 q4 q5 q6 q7 q8 q9 q10 q11 k
theorem bb0 { G1 G2 G : Prop} (k1 : G1) (k2 : G2) (h : G1 → G2 → G := by intro k1 k2; (with_reducible apply X_PuB); (case h => first | ((try simp) <;> (with_reducible exact Is_rfl)) | ((try simp (disch := (first | assumption | omega | (simp <;> omega) | fail)) [SW, SA, SV, if_pos, if_neg, dec_t, dec_f]) <;> (with_reducible exact Is_rfl))); exact k1; exact k2) : G := h  k1 k2
theorem bb1 {A0 G1 G2 G : Prop} (q0 : A0) (k1 : G1) (k2 : G2) (h : A0 → G1 → G2 → G := by intro q0 k1 k2; (with_reducible apply X_PuB); (case h => first | ((try simp [q0]) <;> (with_reducible exact Is_rfl)) | ((try simp (disch := (first | assumption | omega | (simp <;> omega) | fail)) [SW, SA, SV, if_pos, if_neg, dec_t, dec_f, q0]) <;> (with_reducible exact Is_rfl))); exact k1; exact k2) : G := h q0 k1 k2
theorem bb2 {A0 A1 G1 G2 G : Prop} (q0 : A0) (q1 : A1) (k1 : G1) (k2 : G2) (h : A0 → A1 → G1 → G2 → G := by intro q0 q1 k1 k2; (with_reducible apply X_PuB); (case h => first | ((try simp [q0, q1]) <;> (with_reducible exact Is_rfl)) | ((try simp (disch := (first | assumption | omega | (simp <;> omega) | fail)) [SW, SA, SV, if_pos, if_neg, dec_t, dec_f, q0, q1]) <;> (with_reducible exact Is_rfl))); exact k1; exact k2) : G := h q0 q1 k1 k2
theorem bb3 {A0 A1 A2 G1 G2 G : Prop} (q0 : A0) (q1 : A1) (q2 : A2) (k1 : G1) (k2 : G2) (h : A0 → A1 → A2 → G1 → G2 → G := by intro q0 q1 q2 k1 k2; (with_reducible apply X_PuB); (case h => first | ((try simp [q0, q1, q2]) <;> (with_reducible exact Is_rfl)) | ((try simp (disch := (first | assumption | omega | (simp <;> omega) | fail)) [SW, SA, SV, if_pos, if_neg, dec_t, dec_f, q0, q1, q2]) <;> (with_reducible exact Is_rfl))); exact k1; exact k2) : G := h q0 q1 q2 k1 k2
theorem bb4 {A0 A1 A2 A3 G1 G2 G : Prop} (q0 : A0) (q1 : A1) (q2 : A2) (q3 : A3) (k1 : G1) (k2 : G2) (h : A0 → A1 → A2 → A3 → G1 → G2 → G := by intro q0 q1 q2 q3 k1 k2; (with_reducible apply X_PuB); (case h => first | ((try simp [q0, q1, q2, q3]) <;> (with_reducible exact Is_rfl)) | ((try simp (disch := (first | assumption | omega | (simp <;> omega) | fail)) [SW, SA, SV, if_pos, if_neg, dec_t, dec_f, q0, q1, q2, q3]) <;> (with_reducible exact Is_rfl))); exact k1; exact k2) : G := h q0 q1 q2 q3 k1 k2
theorem bb5 {A0 A1 A2 A3 A4 G1 G2 G : Prop} (q0 : A0) (q1 : A1) (q2 : A2) (q3 : A3) (q4 : A4) (k1 : G1) (k2 : G2) (h : A0 → A1 → A2 → A3 → A4 → G1 → G2 → G := by intro q0 q1 q2 q3 q4 k1 k2; (with_reducible apply X_PuB); (case h => first | ((try simp [q0, q1, q2, q3, q4]) <;> (with_reducible exact Is_rfl)) | ((try simp (disch := (first | assumption | omega | (simp <;> omega) | fail)) [SW, SA, SV, if_pos, if_neg, dec_t, dec_f, q0, q1, q2, q3, q4]) <;> (with_reducible exact Is_rfl))); exact k1; exact k2) : G := h q0 q1 q2 q3 q4 k1 k2
end Go.AM
