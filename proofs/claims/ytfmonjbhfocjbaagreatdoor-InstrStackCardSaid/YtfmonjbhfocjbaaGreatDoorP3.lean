import Derived.Test.YtfmonjbhfocjbaaGreatDoorP2
namespace Go.Av.U
open Go Go.Av

def wordF : Nat → ByteArray
  | 0 => ⟨#[105, 110, 116]⟩
  | 1 => ⟨#[103, 108, 111, 98, 97, 108, 38]⟩
  | 2 => ⟨#[112, 117, 115, 104]⟩
  | 3 => ⟨#[109, 107, 97, 112]⟩
  | 4 => ⟨#[117, 112, 100, 97, 116, 101]⟩
  | 5 => ⟨#[112, 111, 112]⟩
  | 6 => ⟨#[115, 108, 105, 100, 101]⟩
  | 7 => ⟨#[97, 108, 108, 111, 99]⟩
  | 8 => ⟨#[101, 118, 97, 108]⟩
  | 9 => ⟨#[117, 110, 119, 105, 110, 100]⟩
  | 10 => ⟨#[112, 97, 99, 107]⟩
  | 11 => ⟨#[99, 97, 115, 101]⟩
  | 12 => ⟨#[115, 112, 108, 105, 116]⟩
  | 13 => ⟨#[115, 119, 105, 116, 99, 104]⟩
  | 14 => ⟨#[112, 114, 105, 109]⟩
  | 15 => ⟨#[102, 97, 105, 108]⟩
  | 16 => ⟨#[106, 117, 109, 112]⟩
  | _ => ⟨#[]⟩
def numsF : Nat → Int
  | 0 => 1
  | 1 => 1
  | 2 => 1
  | 4 => 1
  | 5 => 1
  | 6 => 1
  | 7 => 1
  | 10 => 2
  | 11 => -1
  | 12 => 1
  | 13 => -1
  | 14 => 1
  | 16 => 1
  | _ => 0
def leastF : Nat → Int
  | 7 => 1
  | _ => 0
def mostF : Nat → Int
  | 1 => 65536
  | 2 => 65536
  | 4 => 65536
  | 5 => 65536
  | 6 => 65536
  | 7 => 65536
  | 10 => 255
  | 12 => 65536
  | 14 => 10
  | 16 => 65536
  | _ => 0
def readsF : Nat → Int
  | 2 => 1
  | 3 => 2
  | 4 => 2
  | 6 => 1
  | 8 => 1
  | 9 => 1
  | 11 => 1
  | 12 => 1
  | 13 => 1
  | 14 => 2
  | _ => 0
def readsAF : Nat → Int
  | 2 => 1
  | 4 => 1
  | 5 => 1
  | 6 => 1
  | _ => 0
def leavesF : Nat → Int
  | 0 => 1
  | 1 => 1
  | 2 => 1
  | 3 => -1
  | 4 => -1
  | 10 => 1
  | 12 => -1
  | 14 => -1
  | _ => 0
def leavesAF : Nat → Int
  | 5 => -1
  | 6 => -1
  | 7 => 1
  | 12 => 1
  | _ => 0
theorem formRow_eq (n : Nat) (h : n < 17) : formRow n = [.str (wordF n), .int .i64 (numsF n), .int .i64 (leastF n), .int .i64 (mostF n), .int .i64 (readsF n), .int .i64 (readsAF n), .int .i64 (leavesF n), .int .i64 (leavesAF n)] := by
  match n, h with
  | 0, _ => rfl
  | 1, _ => rfl
  | 2, _ => rfl
  | 3, _ => rfl
  | 4, _ => rfl
  | 5, _ => rfl
  | 6, _ => rfl
  | 7, _ => rfl
  | 8, _ => rfl
  | 9, _ => rfl
  | 10, _ => rfl
  | 11, _ => rfl
  | 12, _ => rfl
  | 13, _ => rfl
  | 14, _ => rfl
  | 15, _ => rfl
  | 16, _ => rfl
  | n + 17, h => exact absurd h (by omega)

def rightF (op a b : Int) (tb : List (Int × Int)) : Bool :=
  if 0 ≤ op ∧ op < 17 then
    if numsF op.toNat < 2 ∧ b ≠ 0 ∨ numsF op.toNat < 1 ∧ a ≠ 0 ∨ 0 ≤ numsF op.toNat ∧ 0 < tb.length then false
    else if numsF op.toNat < 0 then pairsF op tb
    else if op = 0 then true
    else if numsF op.toNat = 0 then true
    else decide ((leastF op.toNat ≤ a ∧ a ≤ mostF op.toNat) ∧ (0 ≤ b ∧ b ≤ 255))
  else false

set_option maxHeartbeats 4000000 in
theorem spec22 (op a b : Int) (tb : List (Int × Int)) (hl : tb.length ≤ 70000) (σ : Store) :
    CALL sysB 22 [.agg [.int .i64 op, .int .i64 a, .int .i64 b, .sl .any 2 (encT tb)]] σ = some (.bool (rightF op a b tb), σ) := by
  rw [C22]
  refine fin_plain rfl ?_
  have hw := encT_weak tb
  simp only [AV.weak, AV.weakL, hw]
  have h72 := spec72 op a b tb hl
  unfold S22
  by_cases hr : 0 ≤ op ∧ op < 17
  · have h71 := spec71 op a b tb
    simp only [opRow, if_pos hr] at h71
    obtain ⟨n, rfl⟩ := Int.eq_ofNat_of_zero_le hr.1
    have hn : n < 17 := by omega
    simp only [Int.toNat_natCast, formRow_eq n hn] at h71
    repeat' (first
      | (with_reducible apply Out.go)
      | (with_reducible apply Out.again_go)
      | (with_reducible apply Out.iff_t)
      | (with_reducible apply Out.iff_f)
      | (apply Out.by; (first | (simp [*, AV.weak, AV.weakL, spec73]; done) | (simp [*, AV.weak, AV.weakL, spec73]; rfl) | rfl); with_reducible apply Out.go)
      | (apply Out.again_by; (first | (simp [*, AV.weak, AV.weakL, spec73]; done) | (simp [*, AV.weak, AV.weakL, spec73]; rfl) | rfl); with_reducible apply Out.again_go)
      | (apply Out.iff_by; (first | (simp [*, AV.weak, AV.weakL, spec73]; done) | (simp [*, AV.weak, AV.weakL, spec73]; rfl) | rfl); (first | (with_reducible apply Out.iff_t) | (with_reducible apply Out.iff_f)))
      | (with_reducible apply Out.guard_t <;> intro h)
      | (with_reducible apply Out.guard_f <;> intro h)
      | (with_reducible apply Out.iff_split <;> intro h))
    all_goals refine Out.leafB ?_
    all_goals clear h71 h72 hw
    all_goals ((try simp only [Bool.or_eq_true, Bool.or_eq_false_iff, Bool.and_eq_true, Bool.and_eq_false_iff, Bool.not_eq_true', Bool.not_eq_false', decide_eq_true_eq, decide_eq_false_iff_not, Bool.not_eq_true, Bool.not_eq_false] at *); simp only [rightF, if_pos hr, Int.toNat_natCast]; (repeat' split) <;> first | rfl | omega | (simp_all; done) | (exfalso; simp_all; omega) | (exact (decide_eq_false (by omega)).symm) | (exact (decide_eq_true (by omega)).symm) | (exact decide_eq_false (by omega)) | (exact decide_eq_true (by omega)) | (exfalso; simp only [Option.some.injEq] at *; subst_vars; omega))
  · have h71 := spec71 op a b tb
    simp only [opRow, if_neg hr, formRow] at h71
    repeat' (first
      | (with_reducible apply Out.go)
      | (with_reducible apply Out.again_go)
      | (with_reducible apply Out.iff_t)
      | (with_reducible apply Out.iff_f)
      | (apply Out.by; (first | (simp [*, AV.weak, AV.weakL, spec73]; done) | (simp [*, AV.weak, AV.weakL, spec73]; rfl) | rfl); with_reducible apply Out.go)
      | (apply Out.again_by; (first | (simp [*, AV.weak, AV.weakL, spec73]; done) | (simp [*, AV.weak, AV.weakL, spec73]; rfl) | rfl); with_reducible apply Out.again_go)
      | (apply Out.iff_by; (first | (simp [*, AV.weak, AV.weakL, spec73]; done) | (simp [*, AV.weak, AV.weakL, spec73]; rfl) | rfl); (first | (with_reducible apply Out.iff_t) | (with_reducible apply Out.iff_f)))
      | (with_reducible apply Out.guard_t <;> intro h)
      | (with_reducible apply Out.guard_f <;> intro h)
      | (with_reducible apply Out.iff_split <;> intro h))
    refine Out.leafB ?_
    simp only [rightF, if_neg hr]

def readsV (op a b : Int) (tb : List (Int × Int)) : Int :=
  if rightF op a b tb = true then IntKind.i64.wrap (IntKind.i64.wrap (readsF op.toNat + IntKind.i64.wrap (readsAF op.toNat * a)) + b) else 0
def leavesV (op a b : Int) (tb : List (Int × Int)) : Int :=
  if rightF op a b tb = true then IntKind.i64.wrap (IntKind.i64.wrap (leavesF op.toNat + IntKind.i64.wrap (leavesAF op.toNat * a)) - b) else 0

theorem right_range {op a b : Int} {tb : List (Int × Int)} (h : rightF op a b tb = true) : 0 ≤ op ∧ op < 17 := by
  unfold rightF at h
  split at h
  · assumption
  · cases h


set_option maxHeartbeats 4000000 in
theorem spec20 (op a b : Int) (tb : List (Int × Int)) (hl : tb.length ≤ 70000) (σ : Store) :
    CALL sysB 20 [.agg [.int .i64 op, .int .i64 a, .int .i64 b, .sl .any 2 (encT tb)]] σ = some (.int .i64 (readsV op a b tb), σ) := by
  rw [C20]
  refine fin_plain rfl ?_
  have hw := encT_weak tb
  simp only [AV.weak, AV.weakL, hw]
  have h22 := spec22 op a b tb hl
  have h71 := spec71 op a b tb
  unfold S20 readsV
  cases hR : rightF op a b tb with
  | true =>
    have hr := right_range hR
    rw [hR] at h22
    simp only [opRow, if_pos hr] at h71
    obtain ⟨n, rfl⟩ := Int.eq_ofNat_of_zero_le hr.1
    have hn : n < 17 := by omega
    simp only [Int.toNat_natCast, formRow_eq n hn] at h71
    clear hr hn hR
    repeat' (first
      | (with_reducible apply Out.go)
      | (with_reducible apply Out.again_go)
      | (with_reducible apply Out.iff_t)
      | (with_reducible apply Out.iff_f)
      | (apply Out.by; (first | (simp [*, AV.weak, AV.weakL]; done) | (simp [*, AV.weak, AV.weakL]; rfl) | rfl); with_reducible apply Out.go)
      | (apply Out.again_by; (first | (simp [*, AV.weak, AV.weakL]; done) | (simp [*, AV.weak, AV.weakL]; rfl) | rfl); with_reducible apply Out.again_go)
      | (apply Out.iff_by; (first | (simp [*, AV.weak, AV.weakL]; done) | (simp [*, AV.weak, AV.weakL]; rfl) | rfl); (first | (with_reducible apply Out.iff_t) | (with_reducible apply Out.iff_f)))
      | (with_reducible apply Out.guard_t <;> intro h)
      | (with_reducible apply Out.guard_f <;> intro h)
      | (with_reducible apply Out.iff_split <;> intro h))
    refine Out.leaf ?_
    simp [AV.weak]
  | false =>
    rw [hR] at h22
    clear hR
    repeat' (first
      | (with_reducible apply Out.go)
      | (with_reducible apply Out.again_go)
      | (with_reducible apply Out.iff_t)
      | (with_reducible apply Out.iff_f)
      | (apply Out.by; (first | (simp [*, AV.weak, AV.weakL]; done) | (simp [*, AV.weak, AV.weakL]; rfl) | rfl); with_reducible apply Out.go)
      | (apply Out.again_by; (first | (simp [*, AV.weak, AV.weakL]; done) | (simp [*, AV.weak, AV.weakL]; rfl) | rfl); with_reducible apply Out.again_go)
      | (apply Out.iff_by; (first | (simp [*, AV.weak, AV.weakL]; done) | (simp [*, AV.weak, AV.weakL]; rfl) | rfl); (first | (with_reducible apply Out.iff_t) | (with_reducible apply Out.iff_f)))
      | (with_reducible apply Out.guard_t <;> intro h)
      | (with_reducible apply Out.guard_f <;> intro h)
      | (with_reducible apply Out.iff_split <;> intro h))
    refine Out.leaf ?_
    simp [AV.weak]

set_option maxHeartbeats 4000000 in
theorem spec21 (op a b : Int) (tb : List (Int × Int)) (hl : tb.length ≤ 70000) (σ : Store) :
    CALL sysB 21 [.agg [.int .i64 op, .int .i64 a, .int .i64 b, .sl .any 2 (encT tb)]] σ = some (.int .i64 (leavesV op a b tb), σ) := by
  rw [C21]
  refine fin_plain rfl ?_
  have hw := encT_weak tb
  simp only [AV.weak, AV.weakL, hw]
  have h22 := spec22 op a b tb hl
  have h71 := spec71 op a b tb
  unfold S21 leavesV
  cases hR : rightF op a b tb with
  | true =>
    have hr := right_range hR
    rw [hR] at h22
    simp only [opRow, if_pos hr] at h71
    obtain ⟨n, rfl⟩ := Int.eq_ofNat_of_zero_le hr.1
    have hn : n < 17 := by omega
    simp only [Int.toNat_natCast, formRow_eq n hn] at h71
    clear hr hn hR
    repeat' (first
      | (with_reducible apply Out.go)
      | (with_reducible apply Out.again_go)
      | (with_reducible apply Out.iff_t)
      | (with_reducible apply Out.iff_f)
      | (apply Out.by; (first | (simp [*, AV.weak, AV.weakL]; done) | (simp [*, AV.weak, AV.weakL]; rfl) | rfl); with_reducible apply Out.go)
      | (apply Out.again_by; (first | (simp [*, AV.weak, AV.weakL]; done) | (simp [*, AV.weak, AV.weakL]; rfl) | rfl); with_reducible apply Out.again_go)
      | (apply Out.iff_by; (first | (simp [*, AV.weak, AV.weakL]; done) | (simp [*, AV.weak, AV.weakL]; rfl) | rfl); (first | (with_reducible apply Out.iff_t) | (with_reducible apply Out.iff_f)))
      | (with_reducible apply Out.guard_t <;> intro h)
      | (with_reducible apply Out.guard_f <;> intro h)
      | (with_reducible apply Out.iff_split <;> intro h))
    refine Out.leaf ?_
    simp [AV.weak]
  | false =>
    rw [hR] at h22
    clear hR
    repeat' (first
      | (with_reducible apply Out.go)
      | (with_reducible apply Out.again_go)
      | (with_reducible apply Out.iff_t)
      | (with_reducible apply Out.iff_f)
      | (apply Out.by; (first | (simp [*, AV.weak, AV.weakL]; done) | (simp [*, AV.weak, AV.weakL]; rfl) | rfl); with_reducible apply Out.go)
      | (apply Out.again_by; (first | (simp [*, AV.weak, AV.weakL]; done) | (simp [*, AV.weak, AV.weakL]; rfl) | rfl); with_reducible apply Out.again_go)
      | (apply Out.iff_by; (first | (simp [*, AV.weak, AV.weakL]; done) | (simp [*, AV.weak, AV.weakL]; rfl) | rfl); (first | (with_reducible apply Out.iff_t) | (with_reducible apply Out.iff_f)))
      | (with_reducible apply Out.guard_t <;> intro h)
      | (with_reducible apply Out.guard_f <;> intro h)
      | (with_reducible apply Out.iff_split <;> intro h))
    refine Out.leaf ?_
    simp [AV.weak]

end Go.Av.U
