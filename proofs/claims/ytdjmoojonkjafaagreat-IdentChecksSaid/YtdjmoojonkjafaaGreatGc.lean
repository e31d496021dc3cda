/- Contracts: cycles, copies of slices, erased pages. -/
import Derived.Test.YtdjmoojonkjafaaGreatGb
set_option linter.unusedSimpArgs false
set_option linter.unusedVariables false
set_option maxRecDepth 100000
set_option maxHeartbeats 2000000
namespace Go.Proofs.YtdjmoojonkjafaaGreat
open Go.AM Go.Proofs
attribute [local irreducible] Pu Br Gd Gd2 GdR Nb Cq Pp callF Jn StS StG Still loopW Ca Is

def by8 (l : List Int) : List AV := l.map (.int .u8)
def in64 (l : List Int) : List AV := l.map (.int .i64)
def cyL (l : List (Int × Int)) : List AV := l.flatMap fun c => [.int .i64 c.1, .int .u8 c.2]
theorem by8_len {l : List Int} : (by8 l).length = l.length := by simp [by8]
theorem in64_len {l : List Int} : (in64 l).length = l.length := by simp [in64]
theorem cyL_nil : cyL [] = [] := rfl
theorem cyL_cons {c : Int × Int} {l : List (Int × Int)} : cyL (c :: l) = .int .i64 c.1 :: .int .u8 c.2 :: cyL l := rfl
theorem cyL_append {l m : List (Int × Int)} : cyL (l ++ m) = cyL l ++ cyL m := by simp [cyL]
theorem cyL_len {l : List (Int × Int)} : (cyL l).length = l.length * 2 := by
  induction l with
  | nil => rfl
  | cons c l ih => rw [cyL_cons]; simp [ih]; omega
theorem cyL_sc {l : List (Int × Int)} : (cyL l).all scalarA = true := by
  induction l with
  | nil => rfl
  | cons c l ih => rw [cyL_cons]; simp [ih]
theorem by8_sc {l : List Int} : (by8 l).all scalarA = true := by simp [by8, scalarA]
theorem in64_sc {l : List Int} : (in64 l).all scalarA = true := by simp [in64, scalarA]
theorem by8_get {l : List Int} {i : Nat} : (by8 l)[i]? = l[i]?.map (.int .u8) := by simp [by8]
theorem in64_get {l : List Int} {i : Nat} : (in64 l)[i]? = l[i]?.map (.int .i64) := by simp [in64]
theorem cyL_get {l : List (Int × Int)} : ∀ {i : Nat} {c : Int × Int}, l[i]? = some c → ((cyL l).drop (i * 2)).take 2 = [.int .i64 c.1, .int .u8 c.2] ∧ (cyL l)[i * 2]? = some (.int .i64 c.1) ∧ (cyL l)[i * 2 + 1]? = some (.int .u8 c.2) := by
  induction l with
  | nil => intro i c h; simp at h
  | cons a l ih =>
    intro i c h
    cases i with
    | zero => simp at h; subst h; rw [cyL_cons]; simp
    | succ i => simp at h; have := ih h; rw [cyL_cons, Nat.succ_mul]; simpa using this

theorem cycle_Of {kind : Int} {v : AV} {l : List Int} {len : Nat} {H : AHeap} {R : AV → AHeap → Prop} (s : Sl H 1 v len (by8 l)) (hl : len ≤ 2 ^ 24)
    (k : ∀ v' H', Gro H' 2 v' len (cyL (l.map fun b => (kind, b))) → Ext H H' → (∀ h ∈ fp v', H.n ≤ h) → R v' H') : Ca Tryz.prog kp 136 [.int .i64 kind, v] H R := by
  have hcl := s.cl
  rw [by8_len, Nat.mul_one] at hcl
  apply F136.ca
  unfold F136
  refine rr1 @s.ln ?_
  refine F136.L0_of _ _ _ _ (fun n x H' => ∃ (i : Nat) (u : AV), n + i = len ∧ x = (u, .int .i64 i) ∧ Ext H H' ∧ Gro H' 2 u i (cyL ((l.take i).map fun b => (kind, b))) ∧ ∀ h ∈ fp u, H.n ≤ h) ?_ len _ _ ⟨0, .nils, rfl, rfl, .refl, by simpa [cyL_nil] using Gro.nil, by simp [fp]⟩
  rintro n x H' ⟨i, u, hn, rfl, e, g, hf⟩ X hX
  have en := e.n
  unfold F136.B0
  by_cases hi : i < len
  · have s' := s.ext e
    obtain ⟨p, hp1, hp2, _⟩ := s'.ix (k := .i64) (i := i) (by omega) (by omega) (by omega)
    have hb : ∃ b, l[i]? = some b := ⟨l[i], by simp [show i < l.length by omega]⟩
    obtain ⟨b, hb⟩ := hb
    simp [by8_get, hb] at hp2
    refine rd2 @hp1 @hp2 ?_
    refine X_app ap43 (k := 1) (xs := [.int .i64 kind, .int .u8 b]) g (Sl.lit rfl rfl) (by omega) (fun v' H'' g' e' f' _ => ?_)
    refine rr0 ?_
    refine hX (n - 1) _ _ (by omega) ⟨i + 1, v', by omega, by simp, e.cut e' hf, ?_, fun h hh => ?_⟩
    · rw [List.take_add_one, hb]
      simp only [List.map_append, cyL_append, Option.toList]
      exact g'
    · rcases f' h hh with h1 | h1
      · exact hf h h1
      · omega
  · have : i = len := by omega
    subst this
    refine rr0 ?_
    rw [List.take_of_length_le (by omega)] at g
    exact k _ _ g e hf
theorem geom_Address {n : Int} {H : AHeap} {R : AV → AHeap → Prop} (h : 0 ≤ n ∧ n < 65536) (k : R (.lit (by8 [n % 256, n / 256]) 2 true) H) : Ca Tryz.prog kp 137 [.int .i64 n] H R := by
  apply F137.ca
  unfold F137
  have h1 : IntKind.u8.wrap n = n % 256 := by rw [IntKind.wrap_u8]
  have h2 : IntKind.u8.wrap (n / 256) = n / 256 := by rw [IntKind.wrap_u8]; omega
  have h3 : aBin Tryz.prog .shr 3 (.int .i64 n) (.int .u64 8) = some (.int .i64 (n / 256)) := by
    simp only [aBin, aShift]
    rw [if_neg (by omega)]
    congr 2
    show n.fdiv (2 ^ 8) = n / 256
    rw [Int.fdiv_eq_ediv_of_nonneg _ (by omega)]
    rfl
  refine rd3 @h1 @h2 @h3 ?_
  exact k
theorem geom_Number {v : AV} {a b : Int} {H : AHeap} {R : AV → AHeap → Prop} (s : Sl H 1 v 2 (by8 [a, b])) (ha : 0 ≤ a ∧ a < 256) (hb : 0 ≤ b ∧ b < 256) (k : ∀ H', Ext H H' → R (.tup [.int .i64 (a + b * 256), .bool true]) H') : Ca Tryz.prog kp 233 [v] H R := by
  apply F233.ca
  unfold F233
  obtain ⟨p, hp1, hp2, _⟩ := s.ix (k := .i64) (i := 0) (by omega) (by omega) (by omega)
  obtain ⟨q, hq1, hq2, _⟩ := s.ix (k := .i64) (i := 1) (by omega) (by omega) (by omega)
  simp [by8] at hp2 hq2
  have h3 : aBin Tryz.prog .shl 3 (.int .i64 b) (.int .u64 8) = some (.int .i64 (b * 256)) := by
    simp only [aBin, aShift]
    rw [if_neg (by omega)]
    congr 2
    show IntKind.i64.wrap (b * 2 ^ 8) = b * 256
    rw [w64 (by omega)]; omega
  have h4 : aBin Tryz.prog .or 3 (.int .i64 a) (.int .i64 (b * 256)) = some (.int .i64 (a + b * 256)) := by
    rw [b_or]
    congr 2
    obtain ⟨a, rfl⟩ : ∃ n : Nat, a = n := ⟨a.toNat, by omega⟩
    obtain ⟨b, rfl⟩ : ∃ n : Nat, b = n := ⟨b.toNat, by omega⟩
    have e : (BitVec.ofInt IntKind.i64.bits (a : Int) ||| BitVec.ofInt IntKind.i64.bits ((b : Int) * 256)).toNat = a + b * 256 := by
      have hor : a ||| b * 256 = a + b * 256 := by
        have h := Nat.two_pow_add_eq_or_of_lt (i := 8) (b := a) (by omega) b
        rw [show 2 ^ 8 * b = b * 256 by omega] at h
        rw [Nat.or_comm, ← h]; omega
      show (BitVec.ofInt 64 (a : Int) ||| BitVec.ofInt 64 ((b : Int) * 256)).toNat = _
      rw [show ((b : Int) * 256) = ((b * 256 : Nat) : Int) by simp, BitVec.ofInt_natCast, BitVec.ofInt_natCast, BitVec.toNat_or, BitVec.toNat_ofNat, BitVec.toNat_ofNat, Nat.mod_eq_of_lt (by omega), Nat.mod_eq_of_lt (by omega), hor]
    rw [e, w64 (by omega)]; simp
  have c1 : cvI .i64 (.int .u8 a) = some (.int .i64 a) := by simp only [cvI]; rw [w64 (by omega)]
  have c2 : cvI .i64 (.int .u8 b) = some (.int .i64 b) := by simp only [cvI]; rw [w64 (by omega)]
  have l1 : ldS (hUp H 12) p = some (.int .u8 a) := hp2
  have l2 : ldS (hUp H 12) q = some (.int .u8 b) := hq2
  refine rr9 @s.ln @hp1 @hq1 @l1 @l2 @c1 @c2 @h3 @h4 ?_
  exact k _ (by exact fa)

theorem clone8s {v : AV} {len : Nat} {cs : List AV} {H : AHeap} {R : AV → AHeap → Prop} (s : Sl H 1 v len cs) (hl : len ≤ 2 ^ 30) (k : ∀ v' H', Gro H' 1 v' len cs → Ext H H' → (∀ h ∈ fp v', H.n ≤ h) → (len = 0 ∨ ∃ h, v' = .sl h 0 len (.gr 1)) → R v' H') : Ca Tryz.prog kp 166 [v] H R := by
  apply F166.ca
  unfold F166
  have go : ∀ (K : AV → AHeap → Prop), (∀ v' H', Gro H' 1 v' len cs → Ext H H' → (∀ h ∈ fp v', H.n ≤ h) → (len = 0 ∨ ∃ h, v' = .sl h 0 len (.gr 1)) → K v' H') → Pp (appendA Tryz.prog H #[26, 26] [.lit [] 0 true, v]) K := by
    intro K hK
    refine X_app ap26 (len := 0) (cs := []) (.lit rfl rfl) s (by omega) (fun v' H' g e f sh => ?_)
    rw [Nat.zero_add, List.nil_append] at g
    refine hK _ _ g e (fun h hh => by simpa [fp] using f h hh) ?_
    rcases sh with h | ⟨h, h1, _⟩
    · exact .inl h
    · exact .inr ⟨h, by rw [h1, Nat.zero_add]⟩
  rcases s.nil_cases with ⟨rfl, rfl, rfl⟩ | ⟨h, o, c, rfl⟩ | ⟨e, rfl⟩
  · refine rr0 ?_
    exact k _ _ .nil .refl (by simp [fp]) (.inl rfl)
  · refine rd0 ?_
    exact go _ k
  · refine rd0 ?_
    exact go _ k
theorem clone8 {v : AV} {len : Nat} {cs : List AV} {H : AHeap} {R : AV → AHeap → Prop} (s : Sl H 1 v len cs) (hl : len ≤ 2 ^ 30) (k : ∀ v' H', Gro H' 1 v' len cs → Ext H H' → (∀ h ∈ fp v', H.n ≤ h) → R v' H') : Ca Tryz.prog kp 166 [v] H R :=
  clone8s s hl fun v' H' g e f _ => k v' H' g e f
theorem clone64 {v : AV} {len : Nat} {cs : List AV} {H : AHeap} {R : AV → AHeap → Prop} (s : Sl H 1 v len cs) (hl : len ≤ 2 ^ 30) (k : ∀ v' H', Gro H' 1 v' len cs → Ext H H' → (∀ h ∈ fp v', H.n ≤ h) → R v' H') : Ca Tryz.prog kp 228 [v] H R := by
  apply F228.ca
  unfold F228
  have go : ∀ (K : AV → AHeap → Prop), (∀ v' H', Gro H' 1 v' len cs → Ext H H' → (∀ h ∈ fp v', H.n ≤ h) → K v' H') → Pp (appendA Tryz.prog H #[24, 24] [.lit [] 0 true, v]) K := by
    intro K hK
    refine X_app ap24 (len := 0) (cs := []) (.lit rfl rfl) s (by omega) (fun v' H' g e f _ => ?_)
    rw [Nat.zero_add, List.nil_append] at g
    exact hK _ _ g e (fun h hh => by simpa [fp] using f h hh)
  rcases s.nil_cases with ⟨rfl, rfl, rfl⟩ | ⟨h, o, c, rfl⟩ | ⟨e, rfl⟩
  · refine rr0 ?_
    exact k _ _ .nil .refl (by simp [fp])
  · refine rd0 ?_
    exact go _ k
  · refine rd0 ?_
    exact go _ k
theorem cloneC {v : AV} {len : Nat} {cs : List AV} {H : AHeap} {R : AV → AHeap → Prop} (s : Sl H 2 v len cs) (hl : len ≤ 2 ^ 30) (k : ∀ v' H', Gro H' 2 v' len cs → Ext H H' → (∀ h ∈ fp v', H.n ≤ h) → R v' H') : Ca Tryz.prog kp 200 [v] H R := by
  apply F200.ca
  unfold F200
  have go : ∀ (K : AV → AHeap → Prop), (∀ v' H', Gro H' 2 v' len cs → Ext H H' → (∀ h ∈ fp v', H.n ≤ h) → K v' H') → Pp (appendA Tryz.prog H #[43, 43] [.lit [] 0 true, v]) K := by
    intro K hK
    refine X_app ap43 (len := 0) (cs := []) (.lit rfl rfl) s (by omega) (fun v' H' g e f _ => ?_)
    rw [Nat.zero_add, List.nil_append] at g
    exact hK _ _ g e (fun h hh => by simpa [fp] using f h hh)
  rcases s.nil_cases with ⟨rfl, rfl, rfl⟩ | ⟨h, o, c, rfl⟩ | ⟨e, rfl⟩
  · refine rr0 ?_
    exact k _ _ .nil .refl (by simp [fp])
  · refine rd0 ?_
    exact go _ k
  · refine rd0 ?_
    exact go _ k

theorem repA_1 {x : AV} : ∀ {n : Nat}, repA [x] n = List.replicate n x
  | 0 => rfl
  | n + 1 => by rw [repA, repA_1, List.replicate_succ]; rfl

theorem page_Erased {g : Geom} {H : AHeap} {R : AV → AHeap → Prop} (ok : g.Ok) (k : ∀ h H', H.n ≤ h → At H' h (.cells 1 (by8 (List.replicate g.raw.toNat 255))) → Ext H H' → R (.sl h 0 g.raw.toNat (.gr 1)) H') : Ca Tryz.prog kp 102 [.agg g.L] H R := by
  apply F102.ca
  unfold F102
  have hb := ok.raw
  have hr : g.raw = g.Chunks * (g.Chunk + 2) + 31 := rfl
  repeat (first | (with_reducible first | refine X_Jn ?_ | refine X_BrT ?_ | refine X_BrF ?_ | refine X_Nw ?_ | refine X_Cq ?_ | refine X_Gtt ?_ | refine X_Gff ?_ | refine X_Gtf ?_ | refine X_Gft ?_ | refine X_Gu ?_ | refine X_G2tt ?_ | refine X_G2ff ?_ | refine X_G2tf ?_ | refine X_G2ft ?_ | refine X_G2u ?_ | refine X_GRtt ?_ | refine X_GRff ?_ | refine X_GRtf ?_ | refine X_GRft ?_ | refine X_GRu ?_ | refine X_fn ?_) | ((with_reducible first | apply X_Pu | apply X_Nb | apply X_Pp); (case h => first | ((try simp [Geom.L]) <;> (with_reducible first | exact (Is_rfl : Is (some (AV.bool true)) _) | exact (Is_rfl : Is (some (AV.bool false)) _) | ((fail_if_success exact Is_b); exact Is_rfl))) | ((try simp (disch := (first | assumption | omega | (simp <;> omega) | fail)) [SW, SA, SV, if_pos, if_neg, dec_t, dec_f, Geom.L]) <;> (with_reducible first | exact (Is_rfl : Is (some (AV.bool true)) _) | exact (Is_rfl : Is (some (AV.bool false)) _) | ((fail_if_success exact Is_b); exact Is_rfl))))) | ((with_reducible apply X_And); (case h => first | (simp [Geom.L]; done) | (simp (disch := (first | assumption | omega | (simp <;> omega) | fail)) [SW, SA, SV, if_pos, if_neg, dec_t, dec_f, Geom.L]; done))))
  generalize hH1 : H.push _ = H1
  have e1 : Ext H H1 := hH1 ▸ by exact fa
  clear hH1
  have e1n := e1.n
  refine geom_Raw ok (fun H2 e2 => ?_)
  have e2n := e2.n
  obtain ⟨N, hN⟩ : ∃ N : Nat, g.raw = N := ⟨g.raw.toNat, by omega⟩
  rw [hN] at k ⊢
  rw [Int.toNat_natCast] at k
  repeat (first | (with_reducible first | refine X_Jn ?_ | refine X_BrT ?_ | refine X_BrF ?_ | refine X_Nw ?_ | refine X_Cq ?_ | refine X_Gtt ?_ | refine X_Gff ?_ | refine X_Gtf ?_ | refine X_Gft ?_ | refine X_Gu ?_ | refine X_G2tt ?_ | refine X_G2ff ?_ | refine X_G2tf ?_ | refine X_G2ft ?_ | refine X_G2u ?_ | refine X_GRtt ?_ | refine X_GRff ?_ | refine X_GRtf ?_ | refine X_GRft ?_ | refine X_GRu ?_ | refine X_fn ?_) | ((with_reducible first | apply X_Pu | apply X_Nb | apply X_Pp); (case h => first | ((try simp [repA_1]) <;> (with_reducible first | exact (Is_rfl : Is (some (AV.bool true)) _) | exact (Is_rfl : Is (some (AV.bool false)) _) | ((fail_if_success exact Is_b); exact Is_rfl))) | ((try simp (disch := (first | assumption | omega | (simp <;> omega) | fail)) [SW, SA, SV, if_pos, if_neg, dec_t, dec_f, repA_1]) <;> (with_reducible first | exact (Is_rfl : Is (some (AV.bool true)) _) | exact (Is_rfl : Is (some (AV.bool false)) _) | ((fail_if_success exact Is_b); exact Is_rfl))))) | ((with_reducible apply X_And); (case h => first | (simp [repA_1]; done) | (simp (disch := (first | assumption | omega | (simp <;> omega) | fail)) [SW, SA, SV, if_pos, if_neg, dec_t, dec_f, repA_1]; done))))
  refine F102.L0_of _ _ _ (fun n x H' => ∃ i : Nat, n + i = N ∧ x = .int .i64 i ∧ Ext H H' ∧ At H' H2.n (.cells 1 (List.replicate i (.int .u8 255) ++ List.replicate (N - i) (.int .u8 0)))) ?_ N _ _ ⟨0, rfl, rfl, (e1.ext e2).push, by simpa using At.push⟩
  rintro n x H' ⟨i, hn, rfl, e, a⟩ X hX
  unfold F102.B0
  by_cases hi : i < N
  · have hset : (List.replicate i (AV.int .u8 255) ++ List.replicate (N - i) (AV.int .u8 0)).set i (.int .u8 255) = List.replicate (i + 1) (AV.int .u8 255) ++ List.replicate (N - (i + 1)) (AV.int .u8 0) := by
      rw [List.set_append_right _ _ (by simp), List.length_replicate, Nat.sub_self, show N - i = N - (i + 1) + 1 by omega, List.replicate_succ, List.set_cons_zero, List.replicate_succ', List.append_assoc]; rfl
    have hlen : i + 1 ≤ i + (N - i) := by omega
    refine rr3 @a.g @hset @hlen ?_
    refine hX (n - 1) _ _ (by omega) ⟨i + 1, by omega, by simp, e.set (.inr (by omega)), a.set⟩
  · have : i = N := by omega
    subst this
    refine rr0 ?_
    refine k _ _ (by omega) ?_ e
    simpa [by8] using a

theorem poll_may {b : Int} {H : AHeap} {R : AV → AHeap → Prop} (k : R (.bool (decide (1 ≤ b ∧ b ≤ 65536))) H) : Ca Tryz.prog kp 155 [.int .i64 b] H R := by
  apply F155.ca
  unfold F155
  refine bb0 ?_ ?_
  · intro h; try simp only [decide_eq_true_eq, decide_eq_false_iff_not, Decidable.not_not, Int.not_lt, Int.not_le, Bool.not_eq_true, Bool.not_eq_false, Bool.not_eq_eq_eq_not, Bool.not_true, Bool.not_false] at h
    refine rr0 ?_
    (with_reducible first | apply X_Pu | apply X_Nb | apply X_Pp); (case h => first | ((try simp) <;> (with_reducible exact Is_rfl)) | ((try simp (disch := (first | assumption | omega | (simp <;> omega) | fail)) [SW, SA, SV, if_pos, if_neg, dec_t, dec_f]) <;> (with_reducible exact Is_rfl)))
    (with_reducible first | apply X_Pu | apply X_Nb | apply X_Pp); (case h => first | ((try simp) <;> (with_reducible exact Is_rfl)) | ((try simp (disch := (first | assumption | omega | (simp <;> omega) | fail)) [SW, SA, SV, if_pos, if_neg, dec_t, dec_f]) <;> (with_reducible exact Is_rfl)))
    simpa [h] using k
  · intro h; try simp only [decide_eq_true_eq, decide_eq_false_iff_not, Decidable.not_not, Int.not_lt, Int.not_le, Bool.not_eq_true, Bool.not_eq_false, Bool.not_eq_eq_eq_not, Bool.not_true, Bool.not_false] at h
    refine rr0 ?_
    have : decide (1 ≤ b ∧ b ≤ 65536) = false := by simp; omega
    rw [this] at k
    exact k
end Go.Proofs.YtdjmoojonkjafaaGreat
