import Derived.Test.YtfmonjbhfocjbaaGreatDoorG2
import Derived.Test.YtfmonjbhfocjbaaGreatDoorAvS
namespace Go.Av.U
open Go Go.Av

def encT (tb : List (Int × Int)) : List AV := tb.map fun p => .agg [.int .i64 p.1, .int .i64 p.2]

theorem spec73 (a b c : Int) (σ : Store) : CALL sysB 73 [.int .i64 a, .int .i64 b, .int .i64 c] σ = some (.bool (decide (a ≤ b ∧ b ≤ c)), σ) := by
  rw [C73]
  refine fin_plain rfl ?_
  unfold S73
  repeat' (first
      | (with_reducible apply Out.go)
      | (with_reducible apply Out.again_go)
      | (with_reducible apply Out.iff_t)
      | (with_reducible apply Out.iff_f)
      | (apply Out.by; (first | (simp [*, AV.weak, AV.weakL]; done) | (simp [*, AV.weak, AV.weakL]; rfl) | rfl); with_reducible apply Out.go)
      | (apply Out.again_by; (first | (simp [*, AV.weak, AV.weakL]; done) | (simp [*, AV.weak, AV.weakL]; rfl) | rfl); with_reducible apply Out.again_go)
      | (apply Out.iff_by; (first | (simp [*, AV.weak, AV.weakL]; done) | (simp [*, AV.weak, AV.weakL]; rfl) | rfl); (first | (with_reducible apply Out.iff_t) | (with_reducible apply Out.iff_f)))
      | (with_reducible apply Out.guard_t <;> intro h)
      | (with_reducible apply Out.guard_f <;> intro h)
      | (with_reducible apply Out.iff_split <;> intro h))
  all_goals exact Out.done ⟨by simp [*, AV.weak], [], by simp⟩

def pg (op : Int) : Option Int → List (Int × Int) → Bool
  | _, [] => true
  | prev, p :: r =>
    if ¬ (0 ≤ p.2 ∧ p.2 ≤ 65536) then false
    else if p.1 = -1 then (if prev.isSome = true then false else pg op (some p.1) r)
    else if op = 11 ∧ ¬ (0 ≤ p.1 ∧ p.1 ≤ 255) then false
    else match prev with
      | none => pg op (some p.1) r
      | some q => if q ≠ -1 ∧ p.1 ≤ q then false else pg op (some p.1) r

theorem pg_cons (op : Int) (prev : Option Int) (p : Int × Int) (r : List (Int × Int)) : pg op prev (p :: r) =
    if ¬ (0 ≤ p.2 ∧ p.2 ≤ 65536) then false
    else if p.1 = -1 then (if prev.isSome = true then false else pg op (some p.1) r)
    else if op = 11 ∧ ¬ (0 ≤ p.1 ∧ p.1 ≤ 255) then false
    else match prev with
      | none => pg op (some p.1) r
      | some q => if q ≠ -1 ∧ p.1 ≤ q then false else pg op (some p.1) r := by cases prev <;> rfl

theorem encT_get {tb : List (Int × Int)} {i : Nat} {p : Int × Int} (h : tb[i]? = some p) : elAt (encT tb) i = some (.agg [.int .i64 p.1, .int .i64 p.2]) := by simp [elAt, encT, h]
@[simp] theorem encT_length (tb : List (Int × Int)) : (encT tb).length = tb.length := by simp [encT]

set_option maxHeartbeats 2000000 in
theorem loop72 (op a b : Int) (tb : List (Int × Int)) (hl : tb.length ≤ 70000) (id : Nat) : ∀ (rest : List (Int × Int)) (i : Nat) (prev : Option Int) (τ : Store),
    τ[id]? = some (.box 46 [.int .i64 op, .int .i64 a, .int .i64 b, .sl .any 2 (encT tb)]) → tb.drop i = rest → (i = 0 → prev = none) → (∀ j, i = j + 1 → ∃ q, tb[j]? = some q ∧ prev = some q.1) →
    Out (fun v s => v = .bool (pg op prev rest) ∧ ∃ l, s = τ ++ l) (S72_506 (.ptr id 0) (.sl .any 2 (encT tb)) (.sl .any 2 (encT tb)) (.int .i64 tb.length) (.int .i64 i) τ)
  | [], i, prev, τ, hτ, hd, h0, hp => by
    have hi : tb.length ≤ i := List.drop_eq_nil_iff.1 hd
    have hi2 : ¬ i < tb.length := by omega
    unfold S72_506
    repeat' (first
      | (with_reducible apply Out.go)
      | (with_reducible apply Out.again_go)
      | (with_reducible apply Out.iff_t)
      | (with_reducible apply Out.iff_f)
      | (apply Out.by; (first | (simp [*, AV.weak, AV.weakL]; done) | (simp [*, AV.weak, AV.weakL]; rfl) | rfl); with_reducible apply Out.go)
      | (apply Out.again_by; (first | (simp [*, AV.weak, AV.weakL]; done) | (simp [*, AV.weak, AV.weakL]; rfl) | rfl); with_reducible apply Out.again_go)
      | (apply Out.iff_by; (first | (simp [*, AV.weak, AV.weakL]; done) | (simp [*, AV.weak, AV.weakL]; rfl) | rfl); (first | (with_reducible apply Out.iff_t) | (with_reducible apply Out.iff_f)))
      | (with_reducible apply Out.guard_t <;> intro h)
      | (with_reducible apply Out.guard_f <;> intro h)
      | (with_reducible apply Out.iff_split <;> intro h))
    exact Out.done ⟨by simp [pg], [], by simp⟩
  | p :: rest, i, prev, τ, hτ, hd, h0, hp => by
    have hi : i < tb.length := by
      rcases Nat.lt_or_ge i tb.length with h | h
      · exact h
      · rw [List.drop_eq_nil_of_le h] at hd; cases hd
    have hget : tb[i]? = some p := by
      have := List.getElem?_drop (xs := tb) (i := i) (j := 0)
      rw [hd] at this; simpa using this.symm
    have hg := encT_get hget
    have hw := wrap_succ (n := i) (by omega)
    have hd2 : tb.drop (i + 1) = rest := by rw [← List.drop_drop, hd]; rfl
    have hlow : ∀ l : Store, (τ ++ l)[id]? = some (.box 46 [.int .i64 op, .int .i64 a, .int .i64 b, .sl .any 2 (encT tb)]) := fun l => get_low hτ
    have next : ∀ (l : Store), Out (fun v s => v = .bool (pg op (some p.1) rest) ∧ ∃ l, s = τ ++ l) (JMP sysB 72 4051 [.ptr id 0, .sl .any 2 (encT tb), .sl .any 2 (encT tb), .int .i64 tb.length, .int .i64 i] (τ ++ l)) := fun l => by
      rw [J72_4051]
      unfold S72_4051
      simp only [s_add, hw, s_ret, s_andR, J72_506]
      exact (loop72 op a b tb hl id rest (i + 1) (some p.1) (τ ++ l) (hlow l) hd2 (by omega) (fun j hj => by cases hj; exact ⟨p, hget, rfl⟩)).mono fun v s ⟨h1, l', h2⟩ => ⟨h1, l ++ l', by rw [h2, List.append_assoc]⟩
    clear hd hd2 hget
    unfold S72_506
    rcases Nat.eq_zero_or_pos i with rfl | hpos
    · have h0' := h0 rfl
      subst h0'
      clear h0 hp
      repeat' (first
      | (with_reducible apply Out.go)
      | (with_reducible apply Out.again_go)
      | (with_reducible apply Out.iff_t)
      | (with_reducible apply Out.iff_f)
      | (apply Out.by; (first | (simp [*, AV.weak, AV.weakL, spec73]; done) | (simp [*, AV.weak, AV.weakL, spec73]; rfl) | rfl); with_reducible apply Out.go)
      | (apply Out.again_by; (first | (simp [*, AV.weak, AV.weakL, spec73]; done) | (simp [*, AV.weak, AV.weakL, spec73]; rfl) | rfl); with_reducible apply Out.again_go)
      | (apply Out.iff_by; (first | (simp [*, AV.weak, AV.weakL, spec73]; done) | (simp [*, AV.weak, AV.weakL, spec73]; rfl) | rfl); (first | (with_reducible apply Out.iff_t) | (with_reducible apply Out.iff_f)))
      | (with_reducible apply Out.guard_t <;> intro h)
      | (with_reducible apply Out.guard_f <;> intro h)
      | (with_reducible apply Out.iff_split <;> intro h))
      all_goals first | (with_reducible refine Out.done ⟨congrArg AV.bool ?_, _, rfl⟩) | (refine (next _).mono fun v s hq => ⟨hq.1.trans (congrArg AV.bool ?_), hq.2⟩) | (with_reducible refine Out.eq (s_ret _ _) (Out.done ⟨congrArg AV.bool ?_, _, rfl⟩))
      all_goals ((try simp only [Bool.or_eq_true, Bool.or_eq_false_iff, Bool.and_eq_true, Bool.and_eq_false_iff, Bool.not_eq_true', Bool.not_eq_false', decide_eq_true_eq, decide_eq_false_iff_not, Bool.not_eq_true, Bool.not_eq_false] at *); rw [pg_cons]; (repeat' split) <;> first | rfl | omega | (simp_all; done) | (exfalso; simp_all; omega) | (exact (decide_eq_false (by omega)).symm) | (exact (decide_eq_true (by omega)).symm) | (exact decide_eq_false (by omega)) | (exact decide_eq_true (by omega)) | (exfalso; simp only [Option.some.injEq] at *; subst_vars; omega))
    · obtain ⟨q, hq, rfl⟩ := hp (i - 1) (by omega)
      have hgq := encT_get hq
      have hwp := wrap_pred (n := i) hpos (by omega)
      clear h0 hp hq
      repeat' (first
      | (with_reducible apply Out.go)
      | (with_reducible apply Out.again_go)
      | (with_reducible apply Out.iff_t)
      | (with_reducible apply Out.iff_f)
      | (apply Out.by; (first | (simp [*, AV.weak, AV.weakL, spec73]; done) | (simp [*, AV.weak, AV.weakL, spec73]; rfl) | rfl); with_reducible apply Out.go)
      | (apply Out.again_by; (first | (simp [*, AV.weak, AV.weakL, spec73]; done) | (simp [*, AV.weak, AV.weakL, spec73]; rfl) | rfl); with_reducible apply Out.again_go)
      | (apply Out.iff_by; (first | (simp [*, AV.weak, AV.weakL, spec73]; done) | (simp [*, AV.weak, AV.weakL, spec73]; rfl) | rfl); (first | (with_reducible apply Out.iff_t) | (with_reducible apply Out.iff_f)))
      | (with_reducible apply Out.guard_t <;> intro h)
      | (with_reducible apply Out.guard_f <;> intro h)
      | (with_reducible apply Out.iff_split <;> intro h))
      all_goals first | (with_reducible refine Out.done ⟨congrArg AV.bool ?_, _, rfl⟩) | (refine (next _).mono fun v s hq => ⟨hq.1.trans (congrArg AV.bool ?_), hq.2⟩) | (with_reducible refine Out.eq (s_ret _ _) (Out.done ⟨congrArg AV.bool ?_, _, rfl⟩))
      all_goals ((try simp only [Bool.or_eq_true, Bool.or_eq_false_iff, Bool.and_eq_true, Bool.and_eq_false_iff, Bool.not_eq_true', Bool.not_eq_false', decide_eq_true_eq, decide_eq_false_iff_not, Bool.not_eq_true, Bool.not_eq_false] at *); rw [pg_cons]; (repeat' split) <;> first | rfl | omega | (simp_all; done) | (exfalso; simp_all; omega) | (exact (decide_eq_false (by omega)).symm) | (exact (decide_eq_true (by omega)).symm) | (exact decide_eq_false (by omega)) | (exact decide_eq_true (by omega)) | (exfalso; simp only [Option.some.injEq] at *; subst_vars; omega))

def pairsF (op : Int) (tb : List (Int × Int)) : Bool :=
  decide (1 ≤ tb.length ∧ (tb.length : Int) ≤ if op = 11 then 257 else 65536) &&
    (!(decide (op = 13) && (match tb with | [] => true | p :: _ => decide (p.1 ≠ -1))) && pg op none tb)

theorem encT_weak (tb : List (Int × Int)) : AV.weakL (encT tb) = encT tb := by
  induction tb with
  | nil => rfl
  | cons p r ih => simp only [encT, List.map_cons, AV.weakL, AV.weak] at ih ⊢; rw [ih]
theorem encT_pure (tb : List (Int × Int)) : AV.pureL (encT tb) = true := by
  induction tb with
  | nil => rfl
  | cons p r ih => simp only [encT, List.map_cons, AV.pureL, AV.pure, Bool.and_self, Bool.true_and] at ih ⊢; exact ih

theorem encT_0 (p : Int × Int) (r : List (Int × Int)) : elAt (encT (p :: r)) 0 = some (.agg [.int .i64 p.1, .int .i64 p.2]) := rfl

set_option maxHeartbeats 2000000 in
theorem spec72 (op a b : Int) (tb : List (Int × Int)) (hl : tb.length ≤ 70000) (σ : Store) :
    CALL sysB 72 [.agg [.int .i64 op, .int .i64 a, .int .i64 b, .sl .any 2 (encT tb)]] σ = some (.bool (pairsF op tb), σ) := by
  rw [C72]
  refine fin_plain rfl ?_
  have hw := encT_weak tb
  simp only [AV.weak, AV.weakL, hw]
  have loop : ∀ τ : Store, τ[σ.length]? = some (.box 46 [.int .i64 op, .int .i64 a, .int .i64 b, .sl .any 2 (encT tb)]) → (∃ l, τ = σ ++ l) →
      Out (fun v s => v.weak = .bool (pg op none tb) ∧ ∃ l, s = σ ++ l) (JMP sysB 72 506 [.ptr σ.length 0, .sl .any 2 (encT tb), .sl .any 2 (encT tb), .int .i64 tb.length, .int .i64 0] τ) := fun τ hτ ⟨l, hl'⟩ => by
    rw [J72_506]
    refine (loop72 op a b tb hl σ.length tb 0 none τ hτ rfl (fun _ => rfl) (fun j hj => by omega)).mono fun v s ⟨h1, l2, h2⟩ => ⟨by rw [h1]; rfl, l ++ l2, by rw [h2, hl', List.append_assoc]⟩
  have mid : ∀ (m : Int), m = (if op = 11 then 257 else 65536) → Out (fun v s => v.weak = .bool (pairsF op tb) ∧ ∃ l, s = σ ++ l) (JMP sysB 72 7 [.ptr σ.length 0, .int .i64 m] (σ ++ [.box 46 [.int .i64 op, .int .i64 a, .int .i64 b, .sl .any 2 (encT tb)]])) := fun m hm => by
    rw [J72_7]
    unfold S72_7
    cases tb with
    | nil =>
      repeat' (first
      | (with_reducible apply Out.go)
      | (with_reducible apply Out.again_go)
      | (with_reducible apply Out.iff_t)
      | (with_reducible apply Out.iff_f)
      | (apply Out.by; (first | (simp [*, AV.weak, AV.weakL, spec73]; done) | (simp [*, AV.weak, AV.weakL, spec73]; rfl) | rfl); with_reducible apply Out.go)
      | (apply Out.again_by; (first | (simp [*, AV.weak, AV.weakL, spec73]; done) | (simp [*, AV.weak, AV.weakL, spec73]; rfl) | rfl); with_reducible apply Out.again_go)
      | (apply Out.iff_by; (first | (simp [*, AV.weak, AV.weakL, spec73]; done) | (simp [*, AV.weak, AV.weakL, spec73]; rfl) | rfl); (first | (with_reducible apply Out.iff_t) | (with_reducible apply Out.iff_f)))
      | (with_reducible apply Out.guard_t <;> intro h)
      | (with_reducible apply Out.guard_f <;> intro h)
      | (with_reducible apply Out.iff_split <;> intro h))
      all_goals (first | (with_reducible refine Out.leafB ?_) | skip)
      all_goals simp_all [pairsF]
    | cons p r =>
      have h0 := encT_0 p r
      repeat' (first
      | (with_reducible apply Out.go)
      | (with_reducible apply Out.again_go)
      | (with_reducible apply Out.iff_t)
      | (with_reducible apply Out.iff_f)
      | (apply Out.by; (first | (simp [*, AV.weak, AV.weakL, spec73]; done) | (simp [*, AV.weak, AV.weakL, spec73]; rfl) | rfl); with_reducible apply Out.go)
      | (apply Out.again_by; (first | (simp [*, AV.weak, AV.weakL, spec73]; done) | (simp [*, AV.weak, AV.weakL, spec73]; rfl) | rfl); with_reducible apply Out.again_go)
      | (apply Out.iff_by; (first | (simp [*, AV.weak, AV.weakL, spec73]; done) | (simp [*, AV.weak, AV.weakL, spec73]; rfl) | rfl); (first | (with_reducible apply Out.iff_t) | (with_reducible apply Out.iff_f)))
      | (with_reducible apply Out.guard_t <;> intro h)
      | (with_reducible apply Out.guard_f <;> intro h)
      | (with_reducible apply Out.iff_split <;> intro h))
      all_goals first
        | (with_reducible refine Out.leafB ?_)
        | (refine Out.mono (loop (σ ++ [.box 46 [.int .i64 op, .int .i64 a, .int .i64 b, .sl .any 2 (encT (p :: r))]]) (by simp) ⟨_, rfl⟩) ?_; rintro v s ⟨hq1, hq2⟩; refine ⟨hq1.trans (congrArg AV.bool ?_), hq2⟩)
      all_goals (clear loop hw h0; subst hm; (try simp only [Bool.or_eq_true, Bool.or_eq_false_iff, Bool.and_eq_true, Bool.and_eq_false_iff, Bool.not_eq_true', Bool.not_eq_false', decide_eq_true_eq, decide_eq_false_iff_not, Bool.not_eq_true, Bool.not_eq_false] at *); simp only [pairsF]; simp [*]; try omega)
  unfold S72
  repeat' (first
      | (with_reducible apply Out.go)
      | (with_reducible apply Out.again_go)
      | (with_reducible apply Out.iff_t)
      | (with_reducible apply Out.iff_f)
      | (apply Out.by; (first | (simp [*, AV.weak, AV.weakL, spec73]; done) | (simp [*, AV.weak, AV.weakL, spec73]; rfl) | rfl); with_reducible apply Out.go)
      | (apply Out.again_by; (first | (simp [*, AV.weak, AV.weakL, spec73]; done) | (simp [*, AV.weak, AV.weakL, spec73]; rfl) | rfl); with_reducible apply Out.again_go)
      | (apply Out.iff_by; (first | (simp [*, AV.weak, AV.weakL, spec73]; done) | (simp [*, AV.weak, AV.weakL, spec73]; rfl) | rfl); (first | (with_reducible apply Out.iff_t) | (with_reducible apply Out.iff_f)))
      | (with_reducible apply Out.guard_t <;> intro h)
      | (with_reducible apply Out.guard_f <;> intro h)
      | (with_reducible apply Out.iff_split <;> intro h))
  all_goals first | exact mid _ (by simp_all) | skip
end Go.Av.U
