import Derived.Test.YtfmonjbhfocjbaaGreatDoorP3
namespace Go.Av.U
open Go Go.Av

theorem encT_cons (p : Int × Int) (r : List (Int × Int)) : encT (p :: r) = .agg [.int .i64 p.1, .int .i64 p.2] :: encT r := rfl

set_option maxHeartbeats 4000000 in
theorem spec19 (op a b : Int) (tb : List (Int × Int)) (hl : tb.length ≤ 300) (σ : Store) :
    CALL sysB 19 [.agg [.int .i64 op, .int .i64 a, .int .i64 b, .sl .any 2 (encT tb)]] σ = some (.agg [.int .i64 op, .int .i64 a, .int .i64 b, .sl .any 2 (encT tb)], σ) := by
  rw [C19]
  have hp : (AV.agg [.int .i64 op, .int .i64 a, .int .i64 b, .sl .any 2 (encT tb)]).pure = true := by simp [AV.pure, AV.pureL, encT_pure, Own.isAny]
  refine fin_plain hp ?_
  have hw := encT_weak tb
  simp only [AV.weak, AV.weakL, hw]
  have hb : appBound (tb.length) 16 = true := by simp [appBound]; omega
  unfold S19
  cases tb with
  | nil =>
    clear hw hb hp
    simp only [encT, List.map_nil]
    repeat' (first
      | (with_reducible apply Out.go)
      | (with_reducible apply Out.again_go)
      | (with_reducible apply Out.iff_t)
      | (with_reducible apply Out.iff_f)
      | (apply Out.by; (first | (simp [*, AV.weak, AV.weakL]; done) | (simp [*, AV.weak, AV.weakL]; rfl) | rfl); with_reducible apply Out.go)
      | (apply Out.again_by; (first | (simp [*, AV.weak, AV.weakL]; done) | (simp [*, AV.weak, AV.weakL]; rfl) | rfl); with_reducible apply Out.again_go)
      | (apply Out.iff_by; (first | (simp [*, AV.weak, AV.weakL]; done) | (simp [*, AV.weak, AV.weakL]; rfl) | rfl); (first | (with_reducible apply Out.iff_t) | (with_reducible apply Out.iff_f)))
      | (with_reducible apply Out.guard_t <;> intro h)
      | (with_reducible apply Out.guard_f <;> intro h)
      | (with_reducible apply Out.iff_split <;> intro h))
    refine Out.ret_by (by simp; rfl) ⟨by simp [AV.weak, AV.weakL], _, rfl⟩
  | cons p r =>
    simp only [encT_cons] at hw ⊢
    have hlen := encT_length r
    clear hp
    simp only [List.length_cons] at hb
    repeat' (first
      | (with_reducible apply Out.go)
      | (with_reducible apply Out.again_go)
      | (with_reducible apply Out.iff_t)
      | (with_reducible apply Out.iff_f)
      | (apply Out.by; (first | (simp [*, AV.weak, AV.weakL]; done) | (simp [*, AV.weak, AV.weakL]; rfl) | rfl); with_reducible apply Out.go)
      | (apply Out.again_by; (first | (simp [*, AV.weak, AV.weakL]; done) | (simp [*, AV.weak, AV.weakL]; rfl) | rfl); with_reducible apply Out.again_go)
      | (apply Out.iff_by; (first | (simp [*, AV.weak, AV.weakL]; done) | (simp [*, AV.weak, AV.weakL]; rfl) | rfl); (first | (with_reducible apply Out.iff_t) | (with_reducible apply Out.iff_f)))
      | (with_reducible apply Out.guard_t <;> intro h)
      | (with_reducible apply Out.guard_f <;> intro h)
      | (with_reducible apply Out.iff_split <;> intro h))
    refine Out.ret_by (by simp; rfl) ⟨by simp [AV.weak, AV.weakL, hw, encT_weak], _, rfl⟩

theorem wr0 : IntKind.i64.wrap 0 = 0 := by rfl
theorem law5_plain (op a b : Int) (tb : List (Int × Int)) (h : rightF op a b tb = true) :
    0 ≤ readsV op a b tb ∧ 0 ≤ IntKind.i64.wrap (readsV op a b tb + leavesV op a b tb) := by
  obtain ⟨h0, h17⟩ := right_range h
  obtain ⟨n, rfl⟩ := Int.eq_ofNat_of_zero_le h0
  have hn : n < 17 := by omega
  simp only [readsV, leavesV, if_pos h, Int.toNat_natCast]
  simp only [rightF, if_pos (And.intro h0 h17), Int.toNat_natCast] at h
  match n, hn with
  | 0, _ =>
    simp only [numsF, leastF, mostF, readsF, readsAF, leavesF, leavesAF] at h ⊢
    have hx : (0 ≤ a ∧ a ≤ 65536 ∧ 0 ≤ b ∧ b ≤ 255) ∨ (0 = 0 ∧ b = 0) := by
      revert h
      repeat' split
      all_goals (intro h; first | omega | (cases h; done) | (simp at h; omega) | (simp at *; omega))
    simp only [Int.zero_mul, Int.one_mul, Int.neg_mul, wr0, Int.zero_add]
    rcases hx with ⟨h1, h2, h3, h4⟩ | ⟨h1, h2⟩
    · simp (disch := omega) only [wrap64, Int.add_zero]
      try omega
    · first | (exact absurd h1 (by decide)) | (subst h2; decide)
  | 1, _ =>
    simp only [numsF, leastF, mostF, readsF, readsAF, leavesF, leavesAF] at h ⊢
    have hx : (0 ≤ a ∧ a ≤ 65536 ∧ 0 ≤ b ∧ b ≤ 255) ∨ (1 = 0 ∧ b = 0) := by
      revert h
      repeat' split
      all_goals (intro h; first | omega | (cases h; done) | (simp at h; omega) | (simp at *; omega))
    simp only [Int.zero_mul, Int.one_mul, Int.neg_mul, wr0, Int.zero_add]
    rcases hx with ⟨h1, h2, h3, h4⟩ | ⟨h1, h2⟩
    · simp (disch := omega) only [wrap64, Int.add_zero]
      try omega
    · first | (exact absurd h1 (by decide)) | (subst h2; decide)
  | 2, _ =>
    simp only [numsF, leastF, mostF, readsF, readsAF, leavesF, leavesAF] at h ⊢
    have hx : (0 ≤ a ∧ a ≤ 65536 ∧ 0 ≤ b ∧ b ≤ 255) ∨ (2 = 0 ∧ b = 0) := by
      revert h
      repeat' split
      all_goals (intro h; first | omega | (cases h; done) | (simp at h; omega) | (simp at *; omega))
    simp only [Int.zero_mul, Int.one_mul, Int.neg_mul, wr0, Int.zero_add]
    rcases hx with ⟨h1, h2, h3, h4⟩ | ⟨h1, h2⟩
    · simp (disch := omega) only [wrap64, Int.add_zero]
      try omega
    · first | (exact absurd h1 (by decide)) | (subst h2; decide)
  | 3, _ =>
    simp only [numsF, leastF, mostF, readsF, readsAF, leavesF, leavesAF] at h ⊢
    have hx : (0 ≤ a ∧ a ≤ 65536 ∧ 0 ≤ b ∧ b ≤ 255) ∨ (3 = 0 ∧ b = 0) := by
      revert h
      repeat' split
      all_goals (intro h; first | omega | (cases h; done) | (simp at h; omega) | (simp at *; omega))
    simp only [Int.zero_mul, Int.one_mul, Int.neg_mul, wr0, Int.zero_add]
    rcases hx with ⟨h1, h2, h3, h4⟩ | ⟨h1, h2⟩
    · simp (disch := omega) only [wrap64, Int.add_zero]
      try omega
    · first | (exact absurd h1 (by decide)) | (subst h2; decide)
  | 4, _ =>
    simp only [numsF, leastF, mostF, readsF, readsAF, leavesF, leavesAF] at h ⊢
    have hx : (0 ≤ a ∧ a ≤ 65536 ∧ 0 ≤ b ∧ b ≤ 255) ∨ (4 = 0 ∧ b = 0) := by
      revert h
      repeat' split
      all_goals (intro h; first | omega | (cases h; done) | (simp at h; omega) | (simp at *; omega))
    simp only [Int.zero_mul, Int.one_mul, Int.neg_mul, wr0, Int.zero_add]
    rcases hx with ⟨h1, h2, h3, h4⟩ | ⟨h1, h2⟩
    · simp (disch := omega) only [wrap64, Int.add_zero]
      try omega
    · first | (exact absurd h1 (by decide)) | (subst h2; decide)
  | 5, _ =>
    simp only [numsF, leastF, mostF, readsF, readsAF, leavesF, leavesAF] at h ⊢
    have hx : (0 ≤ a ∧ a ≤ 65536 ∧ 0 ≤ b ∧ b ≤ 255) ∨ (5 = 0 ∧ b = 0) := by
      revert h
      repeat' split
      all_goals (intro h; first | omega | (cases h; done) | (simp at h; omega) | (simp at *; omega))
    simp only [Int.zero_mul, Int.one_mul, Int.neg_mul, wr0, Int.zero_add]
    rcases hx with ⟨h1, h2, h3, h4⟩ | ⟨h1, h2⟩
    · simp (disch := omega) only [wrap64, Int.add_zero]
      try omega
    · first | (exact absurd h1 (by decide)) | (subst h2; decide)
  | 6, _ =>
    simp only [numsF, leastF, mostF, readsF, readsAF, leavesF, leavesAF] at h ⊢
    have hx : (0 ≤ a ∧ a ≤ 65536 ∧ 0 ≤ b ∧ b ≤ 255) ∨ (6 = 0 ∧ b = 0) := by
      revert h
      repeat' split
      all_goals (intro h; first | omega | (cases h; done) | (simp at h; omega) | (simp at *; omega))
    simp only [Int.zero_mul, Int.one_mul, Int.neg_mul, wr0, Int.zero_add]
    rcases hx with ⟨h1, h2, h3, h4⟩ | ⟨h1, h2⟩
    · simp (disch := omega) only [wrap64, Int.add_zero]
      try omega
    · first | (exact absurd h1 (by decide)) | (subst h2; decide)
  | 7, _ =>
    simp only [numsF, leastF, mostF, readsF, readsAF, leavesF, leavesAF] at h ⊢
    have hx : (0 ≤ a ∧ a ≤ 65536 ∧ 0 ≤ b ∧ b ≤ 255) ∨ (7 = 0 ∧ b = 0) := by
      revert h
      repeat' split
      all_goals (intro h; first | omega | (cases h; done) | (simp at h; omega) | (simp at *; omega))
    simp only [Int.zero_mul, Int.one_mul, Int.neg_mul, wr0, Int.zero_add]
    rcases hx with ⟨h1, h2, h3, h4⟩ | ⟨h1, h2⟩
    · simp (disch := omega) only [wrap64, Int.add_zero]
      try omega
    · first | (exact absurd h1 (by decide)) | (subst h2; decide)
  | 8, _ =>
    simp only [numsF, leastF, mostF, readsF, readsAF, leavesF, leavesAF] at h ⊢
    have hx : (0 ≤ a ∧ a ≤ 65536 ∧ 0 ≤ b ∧ b ≤ 255) ∨ (8 = 0 ∧ b = 0) := by
      revert h
      repeat' split
      all_goals (intro h; first | omega | (cases h; done) | (simp at h; omega) | (simp at *; omega))
    simp only [Int.zero_mul, Int.one_mul, Int.neg_mul, wr0, Int.zero_add]
    rcases hx with ⟨h1, h2, h3, h4⟩ | ⟨h1, h2⟩
    · simp (disch := omega) only [wrap64, Int.add_zero]
      try omega
    · first | (exact absurd h1 (by decide)) | (subst h2; decide)
  | 9, _ =>
    simp only [numsF, leastF, mostF, readsF, readsAF, leavesF, leavesAF] at h ⊢
    have hx : (0 ≤ a ∧ a ≤ 65536 ∧ 0 ≤ b ∧ b ≤ 255) ∨ (9 = 0 ∧ b = 0) := by
      revert h
      repeat' split
      all_goals (intro h; first | omega | (cases h; done) | (simp at h; omega) | (simp at *; omega))
    simp only [Int.zero_mul, Int.one_mul, Int.neg_mul, wr0, Int.zero_add]
    rcases hx with ⟨h1, h2, h3, h4⟩ | ⟨h1, h2⟩
    · simp (disch := omega) only [wrap64, Int.add_zero]
      try omega
    · first | (exact absurd h1 (by decide)) | (subst h2; decide)
  | 10, _ =>
    simp only [numsF, leastF, mostF, readsF, readsAF, leavesF, leavesAF] at h ⊢
    have hx : (0 ≤ a ∧ a ≤ 65536 ∧ 0 ≤ b ∧ b ≤ 255) ∨ (10 = 0 ∧ b = 0) := by
      revert h
      repeat' split
      all_goals (intro h; first | omega | (cases h; done) | (simp at h; omega) | (simp at *; omega))
    simp only [Int.zero_mul, Int.one_mul, Int.neg_mul, wr0, Int.zero_add]
    rcases hx with ⟨h1, h2, h3, h4⟩ | ⟨h1, h2⟩
    · simp (disch := omega) only [wrap64, Int.add_zero]
      try omega
    · first | (exact absurd h1 (by decide)) | (subst h2; decide)
  | 11, _ =>
    simp only [numsF, leastF, mostF, readsF, readsAF, leavesF, leavesAF] at h ⊢
    have hx : (0 ≤ a ∧ a ≤ 65536 ∧ 0 ≤ b ∧ b ≤ 255) ∨ (11 = 0 ∧ b = 0) := by
      revert h
      repeat' split
      all_goals (intro h; first | omega | (cases h; done) | (simp at h; omega) | (simp at *; omega))
    simp only [Int.zero_mul, Int.one_mul, Int.neg_mul, wr0, Int.zero_add]
    rcases hx with ⟨h1, h2, h3, h4⟩ | ⟨h1, h2⟩
    · simp (disch := omega) only [wrap64, Int.add_zero]
      try omega
    · first | (exact absurd h1 (by decide)) | (subst h2; decide)
  | 12, _ =>
    simp only [numsF, leastF, mostF, readsF, readsAF, leavesF, leavesAF] at h ⊢
    have hx : (0 ≤ a ∧ a ≤ 65536 ∧ 0 ≤ b ∧ b ≤ 255) ∨ (12 = 0 ∧ b = 0) := by
      revert h
      repeat' split
      all_goals (intro h; first | omega | (cases h; done) | (simp at h; omega) | (simp at *; omega))
    simp only [Int.zero_mul, Int.one_mul, Int.neg_mul, wr0, Int.zero_add]
    rcases hx with ⟨h1, h2, h3, h4⟩ | ⟨h1, h2⟩
    · simp (disch := omega) only [wrap64, Int.add_zero]
      try omega
    · first | (exact absurd h1 (by decide)) | (subst h2; decide)
  | 13, _ =>
    simp only [numsF, leastF, mostF, readsF, readsAF, leavesF, leavesAF] at h ⊢
    have hx : (0 ≤ a ∧ a ≤ 65536 ∧ 0 ≤ b ∧ b ≤ 255) ∨ (13 = 0 ∧ b = 0) := by
      revert h
      repeat' split
      all_goals (intro h; first | omega | (cases h; done) | (simp at h; omega) | (simp at *; omega))
    simp only [Int.zero_mul, Int.one_mul, Int.neg_mul, wr0, Int.zero_add]
    rcases hx with ⟨h1, h2, h3, h4⟩ | ⟨h1, h2⟩
    · simp (disch := omega) only [wrap64, Int.add_zero]
      try omega
    · first | (exact absurd h1 (by decide)) | (subst h2; decide)
  | 14, _ =>
    simp only [numsF, leastF, mostF, readsF, readsAF, leavesF, leavesAF] at h ⊢
    have hx : (0 ≤ a ∧ a ≤ 65536 ∧ 0 ≤ b ∧ b ≤ 255) ∨ (14 = 0 ∧ b = 0) := by
      revert h
      repeat' split
      all_goals (intro h; first | omega | (cases h; done) | (simp at h; omega) | (simp at *; omega))
    simp only [Int.zero_mul, Int.one_mul, Int.neg_mul, wr0, Int.zero_add]
    rcases hx with ⟨h1, h2, h3, h4⟩ | ⟨h1, h2⟩
    · simp (disch := omega) only [wrap64, Int.add_zero]
      try omega
    · first | (exact absurd h1 (by decide)) | (subst h2; decide)
  | 15, _ =>
    simp only [numsF, leastF, mostF, readsF, readsAF, leavesF, leavesAF] at h ⊢
    have hx : (0 ≤ a ∧ a ≤ 65536 ∧ 0 ≤ b ∧ b ≤ 255) ∨ (15 = 0 ∧ b = 0) := by
      revert h
      repeat' split
      all_goals (intro h; first | omega | (cases h; done) | (simp at h; omega) | (simp at *; omega))
    simp only [Int.zero_mul, Int.one_mul, Int.neg_mul, wr0, Int.zero_add]
    rcases hx with ⟨h1, h2, h3, h4⟩ | ⟨h1, h2⟩
    · simp (disch := omega) only [wrap64, Int.add_zero]
      try omega
    · first | (exact absurd h1 (by decide)) | (subst h2; decide)
  | 16, _ =>
    simp only [numsF, leastF, mostF, readsF, readsAF, leavesF, leavesAF] at h ⊢
    have hx : (0 ≤ a ∧ a ≤ 65536 ∧ 0 ≤ b ∧ b ≤ 255) ∨ (16 = 0 ∧ b = 0) := by
      revert h
      repeat' split
      all_goals (intro h; first | omega | (cases h; done) | (simp at h; omega) | (simp at *; omega))
    simp only [Int.zero_mul, Int.one_mul, Int.neg_mul, wr0, Int.zero_add]
    rcases hx with ⟨h1, h2, h3, h4⟩ | ⟨h1, h2⟩
    · simp (disch := omega) only [wrap64, Int.add_zero]
      try omega
    · first | (exact absurd h1 (by decide)) | (subst h2; decide)
  | n + 17, h => exact absurd h (by omega)

set_option maxHeartbeats 4000000 in
theorem law5 (op a b : Int) (tb : List (Int × Int)) (σ : Store) :
    CALL sysB 5 [.agg [.int .i64 op, .int .i64 a, .int .i64 b, .sl .any 2 (encT tb)]] σ = some (.bool true, σ) := by
  rw [C5]
  refine fin_plain rfl ?_
  have hw := encT_weak tb
  simp only [AV.weak, AV.weakL, hw]
  have h10 : ∀ σ, CALL sysB 10 [] σ = some (.bool true, σ) := fun σ => CALL_ext (A := sysB) (f := 10) rfl rfl [] σ
  unfold S5
  by_cases hl : tb.length ≤ 300
  · have h19 := spec19 op a b tb hl
    have h20 := spec20 op a b tb (by omega)
    have h21 := spec21 op a b tb (by omega)
    have h22 := spec22 op a b tb (by omega)
    have hl2 : ¬ (300 : Int) < (tb.length : Int) := by omega
    clear hl
    cases hR : rightF op a b tb with
    | true =>
      obtain ⟨hp1, hp2⟩ := law5_plain op a b tb hR
      repeat' (first
      | (with_reducible apply Out.go)
      | (with_reducible apply Out.again_go)
      | (with_reducible apply Out.iff_t)
      | (with_reducible apply Out.iff_f)
      | (apply Out.by; (first | (simp [*, AV.weak, AV.weakL]; done) | (simp [*, AV.weak, AV.weakL]; rfl) | rfl); with_reducible apply Out.go)
      | (apply Out.again_by; (first | (simp [*, AV.weak, AV.weakL]; done) | (simp [*, AV.weak, AV.weakL]; rfl) | rfl); with_reducible apply Out.again_go)
      | (apply Out.iff_by; (first | (simp [*, AV.weak, AV.weakL]; done) | (simp [*, AV.weak, AV.weakL]; rfl) | rfl); (first | (with_reducible apply Out.iff_t) | (with_reducible apply Out.iff_f)))
      | (with_reducible apply Out.guard_t <;> intro h)
      | (with_reducible apply Out.guard_f <;> intro h)
      | (with_reducible apply Out.iff_split <;> intro h))
      all_goals exact Out.leaf rfl
    | false =>
      have hp1 : readsV op a b tb = 0 := by simp [readsV, hR]
      have hp2 : leavesV op a b tb = 0 := by simp [leavesV, hR]
      rw [hp1] at h20
      rw [hp2] at h21
      have hz := wr0
      repeat' (first
      | (with_reducible apply Out.go)
      | (with_reducible apply Out.again_go)
      | (with_reducible apply Out.iff_t)
      | (with_reducible apply Out.iff_f)
      | (apply Out.by; (first | (simp [*, AV.weak, AV.weakL]; done) | (simp [*, AV.weak, AV.weakL]; rfl) | rfl); with_reducible apply Out.go)
      | (apply Out.again_by; (first | (simp [*, AV.weak, AV.weakL]; done) | (simp [*, AV.weak, AV.weakL]; rfl) | rfl); with_reducible apply Out.again_go)
      | (apply Out.iff_by; (first | (simp [*, AV.weak, AV.weakL]; done) | (simp [*, AV.weak, AV.weakL]; rfl) | rfl); (first | (with_reducible apply Out.iff_t) | (with_reducible apply Out.iff_f)))
      | (with_reducible apply Out.guard_t <;> intro h)
      | (with_reducible apply Out.guard_f <;> intro h)
      | (with_reducible apply Out.iff_split <;> intro h))
      all_goals exact Out.leaf rfl
  · have hl2 : (300 : Int) < (tb.length : Int) := by omega
    clear hl
    repeat' (first
      | (with_reducible apply Out.go)
      | (with_reducible apply Out.again_go)
      | (with_reducible apply Out.iff_t)
      | (with_reducible apply Out.iff_f)
      | (apply Out.by; (first | (simp [*, AV.weak, AV.weakL]; done) | (simp [*, AV.weak, AV.weakL]; rfl) | rfl); with_reducible apply Out.go)
      | (apply Out.again_by; (first | (simp [*, AV.weak, AV.weakL]; done) | (simp [*, AV.weak, AV.weakL]; rfl) | rfl); with_reducible apply Out.again_go)
      | (apply Out.iff_by; (first | (simp [*, AV.weak, AV.weakL]; done) | (simp [*, AV.weak, AV.weakL]; rfl) | rfl); (first | (with_reducible apply Out.iff_t) | (with_reducible apply Out.iff_f)))
      | (with_reducible apply Out.guard_t <;> intro h)
      | (with_reducible apply Out.guard_f <;> intro h)
      | (with_reducible apply Out.iff_split <;> intro h))
    exact Out.leaf rfl
end Go.Av.U
