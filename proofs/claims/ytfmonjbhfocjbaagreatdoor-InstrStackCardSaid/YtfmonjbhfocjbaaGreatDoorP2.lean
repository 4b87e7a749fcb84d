import Derived.Test.YtfmonjbhfocjbaaGreatDoorP1
namespace Go.Av.U
open Go Go.Av

def formRow : Nat → List AV
  | 0 => [.str ⟨#[105, 110, 116]⟩, .int .i64 1, .int .i64 0, .int .i64 0, .int .i64 0, .int .i64 0, .int .i64 1, .int .i64 0]
  | 1 => [.str ⟨#[103, 108, 111, 98, 97, 108, 38]⟩, .int .i64 1, .int .i64 0, .int .i64 65536, .int .i64 0, .int .i64 0, .int .i64 1, .int .i64 0]
  | 2 => [.str ⟨#[112, 117, 115, 104]⟩, .int .i64 1, .int .i64 0, .int .i64 65536, .int .i64 1, .int .i64 1, .int .i64 1, .int .i64 0]
  | 3 => [.str ⟨#[109, 107, 97, 112]⟩, .int .i64 0, .int .i64 0, .int .i64 0, .int .i64 2, .int .i64 0, .int .i64 (-1), .int .i64 0]
  | 4 => [.str ⟨#[117, 112, 100, 97, 116, 101]⟩, .int .i64 1, .int .i64 0, .int .i64 65536, .int .i64 2, .int .i64 1, .int .i64 (-1), .int .i64 0]
  | 5 => [.str ⟨#[112, 111, 112]⟩, .int .i64 1, .int .i64 0, .int .i64 65536, .int .i64 0, .int .i64 1, .int .i64 0, .int .i64 (-1)]
  | 6 => [.str ⟨#[115, 108, 105, 100, 101]⟩, .int .i64 1, .int .i64 0, .int .i64 65536, .int .i64 1, .int .i64 1, .int .i64 0, .int .i64 (-1)]
  | 7 => [.str ⟨#[97, 108, 108, 111, 99]⟩, .int .i64 1, .int .i64 1, .int .i64 65536, .int .i64 0, .int .i64 0, .int .i64 0, .int .i64 1]
  | 8 => [.str ⟨#[101, 118, 97, 108]⟩, .int .i64 0, .int .i64 0, .int .i64 0, .int .i64 1, .int .i64 0, .int .i64 0, .int .i64 0]
  | 9 => [.str ⟨#[117, 110, 119, 105, 110, 100]⟩, .int .i64 0, .int .i64 0, .int .i64 0, .int .i64 1, .int .i64 0, .int .i64 0, .int .i64 0]
  | 10 => [.str ⟨#[112, 97, 99, 107]⟩, .int .i64 2, .int .i64 0, .int .i64 255, .int .i64 0, .int .i64 0, .int .i64 1, .int .i64 0]
  | 11 => [.str ⟨#[99, 97, 115, 101]⟩, .int .i64 (-1), .int .i64 0, .int .i64 0, .int .i64 1, .int .i64 0, .int .i64 0, .int .i64 0]
  | 12 => [.str ⟨#[115, 112, 108, 105, 116]⟩, .int .i64 1, .int .i64 0, .int .i64 65536, .int .i64 1, .int .i64 0, .int .i64 (-1), .int .i64 1]
  | 13 => [.str ⟨#[115, 119, 105, 116, 99, 104]⟩, .int .i64 (-1), .int .i64 0, .int .i64 0, .int .i64 1, .int .i64 0, .int .i64 0, .int .i64 0]
  | 14 => [.str ⟨#[112, 114, 105, 109]⟩, .int .i64 1, .int .i64 0, .int .i64 10, .int .i64 2, .int .i64 0, .int .i64 (-1), .int .i64 0]
  | 15 => [.str ⟨#[102, 97, 105, 108]⟩, .int .i64 0, .int .i64 0, .int .i64 0, .int .i64 0, .int .i64 0, .int .i64 0, .int .i64 0]
  | 16 => [.str ⟨#[106, 117, 109, 112]⟩, .int .i64 1, .int .i64 0, .int .i64 65536, .int .i64 0, .int .i64 0, .int .i64 0, .int .i64 0]
  | _ => [.str ⟨#[]⟩, .int .i64 0, .int .i64 0, .int .i64 0, .int .i64 0, .int .i64 0, .int .i64 0, .int .i64 0]

def formsC : List AV := (List.range 17).flatMap formRow
theorem formsC_length : formsC.length = 136 := by kernel_rfl
theorem formsC_flat : formsC.all AV.flat = true := by kernel_rfl
theorem formsC_weak : AV.weakL formsC = formsC := by kernel_rfl
theorem formsC_pure : AV.pureL formsC = true := by kernel_rfl
theorem formsC_get (n : Nat) (h : n < 17) : (formsC.drop (n * 8)).take 8 = formRow n := by
  match n, h with
  | 0, _ => exact (by kernel_rfl : (formsC.drop (0 * 8)).take 8 = formRow 0)
  | 1, _ => exact (by kernel_rfl : (formsC.drop (1 * 8)).take 8 = formRow 1)
  | 2, _ => exact (by kernel_rfl : (formsC.drop (2 * 8)).take 8 = formRow 2)
  | 3, _ => exact (by kernel_rfl : (formsC.drop (3 * 8)).take 8 = formRow 3)
  | 4, _ => exact (by kernel_rfl : (formsC.drop (4 * 8)).take 8 = formRow 4)
  | 5, _ => exact (by kernel_rfl : (formsC.drop (5 * 8)).take 8 = formRow 5)
  | 6, _ => exact (by kernel_rfl : (formsC.drop (6 * 8)).take 8 = formRow 6)
  | 7, _ => exact (by kernel_rfl : (formsC.drop (7 * 8)).take 8 = formRow 7)
  | 8, _ => exact (by kernel_rfl : (formsC.drop (8 * 8)).take 8 = formRow 8)
  | 9, _ => exact (by kernel_rfl : (formsC.drop (9 * 8)).take 8 = formRow 9)
  | 10, _ => exact (by kernel_rfl : (formsC.drop (10 * 8)).take 8 = formRow 10)
  | 11, _ => exact (by kernel_rfl : (formsC.drop (11 * 8)).take 8 = formRow 11)
  | 12, _ => exact (by kernel_rfl : (formsC.drop (12 * 8)).take 8 = formRow 12)
  | 13, _ => exact (by kernel_rfl : (formsC.drop (13 * 8)).take 8 = formRow 13)
  | 14, _ => exact (by kernel_rfl : (formsC.drop (14 * 8)).take 8 = formRow 14)
  | 15, _ => exact (by kernel_rfl : (formsC.drop (15 * 8)).take 8 = formRow 15)
  | 16, _ => exact (by kernel_rfl : (formsC.drop (16 * 8)).take 8 = formRow 16)
  | n + 17, h => exact absurd h (by omega)

theorem setCells_all : ∀ (cs row pre : List AV), row.length = cs.length → setCells (pre ++ row) pre.length cs = pre ++ cs
  | [], row, pre, h => by simp only [setCells]; rw [List.length_eq_zero_iff.1 h]
  | c :: cs, [], pre, h => by simp at h
  | c :: cs, r :: row, pre, h => by
    simp only [setCells]
    have h1 : (pre ++ r :: row).set pre.length c = (pre ++ [c]) ++ row := by simp
    rw [h1]
    have := setCells_all cs row (pre ++ [c]) (by simpa using h)
    simp only [List.length_append, List.length_singleton] at this
    rw [this]; simp
theorem setCells_forms (row : List AV) (h : row.length = 136) : setCells row 0 formsC = formsC := by
  have := setCells_all formsC row [] (by rw [h, formsC_length])
  simpa using this

set_option maxHeartbeats 4000000 in
set_option maxRecDepth 10000 in
theorem spec112 (σ : Store) : CALL sysB 112 [] σ = some (.agg formsC, σ) := by
  rw [C112]
  refine fin_plain rfl ?_
  unfold S112
  repeat' (first
      | (with_reducible apply Out.go)
      | (with_reducible apply Out.again_go)
      | (with_reducible apply Out.iff_t)
      | (with_reducible apply Out.iff_f)
      | (apply Out.by; (first | (simp [*, AV.weak, AV.weakL]; done) | (simp [*, AV.weak, AV.weakL]; rfl) | rfl); with_reducible apply Out.go)
      | (apply Out.again_by; (first | (simp [*, AV.weak, AV.weakL]; done) | (simp [*, AV.weak, AV.weakL]; rfl) | rfl); with_reducible apply Out.again_go)
      | (apply Out.iff_by; (first | (simp [*, AV.weak, AV.weakL]; done) | (simp [*, AV.weak, AV.weakL]; rfl) | rfl); (first | (with_reducible apply Out.iff_t) | (with_reducible apply Out.iff_f)))
      | (with_reducible apply Out.guard_t <;> intro h)
      | (with_reducible apply Out.guard_f <;> intro h)
      | (with_reducible apply Out.iff_split <;> intro h))
  all_goals (refine Out.ret_by (v := .agg formsC) ?_ ⟨congrArg AV.agg formsC_weak, _, rfl⟩; rw [load_boxO, get_len0]; kernel_rfl)

def opRow (op : Int) : AV := if 0 ≤ op ∧ op < 17 then .tup [.agg (formRow op.toNat), .bool true] else .tup [.agg (formRow 17), .bool false]

theorem formRow_pure (n : Nat) : AV.pureL (formRow n) = true := by
  unfold formRow; split <;> rfl
theorem opRow_pure (op : Int) : (opRow op).pure = true := by
  unfold opRow
  split <;> simp [AV.pure, AV.pureL, formRow_pure]
theorem formRow_weak (n : Nat) : AV.weakL (formRow n) = formRow n := by
  unfold formRow; split <;> rfl
theorem formRow_length (n : Nat) : (formRow n).length = 8 := by
  unfold formRow; split <;> rfl
theorem formRow_flat (n : Nat) : (formRow n).all AV.flat = true := by
  unfold formRow; split <;> rfl

set_option maxHeartbeats 4000000 in
set_option maxRecDepth 10000 in
theorem spec71 (op a b : Int) (tb : List (Int × Int)) (σ : Store) :
    CALL sysB 71 [.agg [.int .i64 op, .int .i64 a, .int .i64 b, .sl .any 2 (encT tb)]] σ = some (opRow op, σ) := by
  rw [C71]
  refine fin_plain (opRow_pure op) ?_
  have hw := encT_weak tb
  simp only [AV.weak, AV.weakL, hw]
  have h1 := formsC_length
  have h2 : (∀ x ∈ formsC, AV.flat x = true) = True := eq_true (List.all_eq_true.1 formsC_flat)
  have h3 := setCells_forms
  unfold S71
  by_cases hr : 0 ≤ op ∧ op < 17
  · obtain ⟨n, rfl⟩ := Int.eq_ofNat_of_zero_le hr.1
    have hn : n < 17 := by omega
    have k1 : (n : Int) < 17 := hr.2
    have k2 : ¬ (17 ≤ (n : Int)) := by omega
    have k3 : ¬ ((n : Int) < 0) := by omega
    have k4 : 8 ≤ 136 - n * 8 := by omega
    have k5 := formsC_get n hn
    have k6 : ∀ row : List AV, row.length = 8 → setCells row 0 (formRow n) = formRow n := fun row hrow => by
      have := setCells_all (formRow n) row [] (by rw [hrow, formRow_length])
      simpa using this
    have k7 := formRow_length n
    have k8 : (∀ x ∈ formRow n, AV.flat x = true) = True := eq_true (List.all_eq_true.1 (formRow_flat n))
    clear hr hn
    repeat' (first
      | (with_reducible apply Out.go)
      | (with_reducible apply Out.again_go)
      | (with_reducible apply Out.iff_t)
      | (with_reducible apply Out.iff_f)
      | (apply Out.by; (first | (simp [*, AV.weak, AV.weakL, spec112]; done) | (simp [*, AV.weak, AV.weakL, spec112]; rfl) | rfl); with_reducible apply Out.go)
      | (apply Out.again_by; (first | (simp [*, AV.weak, AV.weakL, spec112]; done) | (simp [*, AV.weak, AV.weakL, spec112]; rfl) | rfl); with_reducible apply Out.again_go)
      | (apply Out.iff_by; (first | (simp [*, AV.weak, AV.weakL, spec112]; done) | (simp [*, AV.weak, AV.weakL, spec112]; rfl) | rfl); (first | (with_reducible apply Out.iff_t) | (with_reducible apply Out.iff_f)))
      | (with_reducible apply Out.guard_t <;> intro h)
      | (with_reducible apply Out.guard_f <;> intro h)
      | (with_reducible apply Out.iff_split <;> intro h))
    refine Out.ret_by (v := .tup [.agg (formRow n), .bool true]) ?_ ⟨?_, _, rfl⟩
    · simp [*]
      rw [← k7, List.take_length]
    · simp only [opRow, if_pos (show 0 ≤ (n : Int) ∧ (n : Int) < 17 from ⟨by omega, k1⟩), AV.weak, AV.weakL, formRow_weak]
      rfl
  · have hz : opRow op = .tup [.agg (formRow 17), .bool false] := if_neg hr
    rw [hz]
    rcases Int.lt_or_le op 0 with hop | hop
    · clear hr
      repeat' (first
      | (with_reducible apply Out.go)
      | (with_reducible apply Out.again_go)
      | (with_reducible apply Out.iff_t)
      | (with_reducible apply Out.iff_f)
      | (apply Out.by; (first | (simp [*, AV.weak, AV.weakL, spec112]; done) | (simp [*, AV.weak, AV.weakL, spec112]; rfl) | rfl); with_reducible apply Out.go)
      | (apply Out.again_by; (first | (simp [*, AV.weak, AV.weakL, spec112]; done) | (simp [*, AV.weak, AV.weakL, spec112]; rfl) | rfl); with_reducible apply Out.again_go)
      | (apply Out.iff_by; (first | (simp [*, AV.weak, AV.weakL, spec112]; done) | (simp [*, AV.weak, AV.weakL, spec112]; rfl) | rfl); (first | (with_reducible apply Out.iff_t) | (with_reducible apply Out.iff_f)))
      | (with_reducible apply Out.guard_t <;> intro h)
      | (with_reducible apply Out.guard_f <;> intro h)
      | (with_reducible apply Out.iff_split <;> intro h))
      refine Out.ret_by (v := .tup [.agg (formRow 17), .bool false]) ?_ ⟨rfl, _, rfl⟩
      simp [formRow]
    · have k2 : 17 ≤ op := by omega
      have k3 : ¬ op < 0 := by omega
      clear hr hop
      repeat' (first
      | (with_reducible apply Out.go)
      | (with_reducible apply Out.again_go)
      | (with_reducible apply Out.iff_t)
      | (with_reducible apply Out.iff_f)
      | (apply Out.by; (first | (simp [*, AV.weak, AV.weakL, spec112]; done) | (simp [*, AV.weak, AV.weakL, spec112]; rfl) | rfl); with_reducible apply Out.go)
      | (apply Out.again_by; (first | (simp [*, AV.weak, AV.weakL, spec112]; done) | (simp [*, AV.weak, AV.weakL, spec112]; rfl) | rfl); with_reducible apply Out.again_go)
      | (apply Out.iff_by; (first | (simp [*, AV.weak, AV.weakL, spec112]; done) | (simp [*, AV.weak, AV.weakL, spec112]; rfl) | rfl); (first | (with_reducible apply Out.iff_t) | (with_reducible apply Out.iff_f)))
      | (with_reducible apply Out.guard_t <;> intro h)
      | (with_reducible apply Out.guard_f <;> intro h)
      | (with_reducible apply Out.iff_split <;> intro h))
      refine Out.ret_by (v := .tup [.agg (formRow 17), .bool false]) ?_ ⟨rfl, _, rfl⟩
      simp [formRow]
end Go.Av.U
