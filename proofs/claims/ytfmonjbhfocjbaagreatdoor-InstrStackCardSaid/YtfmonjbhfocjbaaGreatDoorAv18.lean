/- Tables, and how the parts of a function's proof are put together. -/
import Derived.Test.YtfmonjbhfocjbaaGreatDoorAv17
namespace Go.Av
open Go Go.RowKit

def lookL : List (Nat × List Nat × TC) → Nat → Option (List Nat × TC)
  | [], _ => none
  | e :: r, p => cond (Nat.beq e.1 p) (some e.2) (lookL r p)
def lookF : List (Nat × FC) → Nat → Option FC
  | [], _ => none
  | e :: r, p => cond (Nat.beq e.1 p) (some e.2) (lookF r p)
def lookN : List (Nat × List Nat) → Nat → List Nat
  | [], _ => []
  | e :: r, p => cond (Nat.beq e.1 p) e.2 (lookN r p)

def stR (x : Option Store) : Res :=
  match x with
  | some σ => some (.tup [], σ)
  | none => none

theorem okLabs {L : List (Nat × TC)} {f : Nat → Option (List Nat × TC)} {g : Nat → List Nat} (h : L.map (fun e => f e.1) = L.map (fun e => some (g e.1, e.2))) :
    ∀ e ∈ L, f e.1 = some (g e.1, e.2) := fun e he => List.map_inj_left.1 h e he

theorem lookF_ok {P : Program} : ∀ {l : List (Nat × FC)} {f : Nat} {fc : FC}, lookF l f = some fc → (∀ e ∈ l, FuncOK P e.1 e.2) → FuncOK P f fc
  | [], _, _, h, _ => by cases h
  | e :: r, f, fc, h, hl => by
    simp only [lookF] at h
    cases hb : Nat.beq e.1 f with
    | true =>
      rw [hb] at h
      cases h
      have := Nat.eq_of_beq_eq_true hb
      subst this
      exact hl e (List.mem_cons_self ..)
    | false =>
      rw [hb] at h
      exact lookF_ok h fun e' he' => hl e' (List.mem_cons_of_mem _ he')

/-! ### how shallow forms are walked -/
def andP (x : Option AV) (f : AV → Res) : Res :=
  match x with
  | some v => f v
  | none => none

theorem andR_ret (σ : Store) (x : Option AV) (f : AV → Store → Res) : andR (ret σ x) f = andP x fun v => f v σ := by cases x <;> rfl
theorem andR_some' (v : AV) (σ : Store) (f : AV → Store → Res) : andR (some (v, σ)) f = f v σ := rfl
theorem andR_none (f : AV → Store → Res) : andR none f = none := rfl
theorem andP_some (v : AV) (f : AV → Res) : andP (some v) f = f v := rfl
theorem andP_none (f : AV → Res) : andP none f = none := rfl
theorem iff_true (a b : Res) : iff' (.bool true) a b = a := rfl
theorem iff_false (a b : Res) : iff' (.bool false) a b = b := rfl
theorem iff_bool (c : Bool) (a b : Res) : iff' (.bool c) a b = cond c a b := by cases c <;> rfl
theorem iff_dec (p : Prop) [Decidable p] (a b : Res) : iff' (.bool (decide p)) a b = if p then a else b := by
  by_cases h : p <;> simp [iff', h]

end Go.Av
