/- Comparisons of structs, pointers, nil; other small operations. -/
import Derived.Test.YtfmonjbhfocjbaaGreatDoorAv7
import Derived.WalkSpells
namespace Go.Av
open Go Go.RowKit

section
variable {K : Cfg} {G : Ghost} {σ : Store} {w : World}

/-! ### equal bools -/
def eEqb (neg : Bool) : AV → AV → Option AV
  | .bool a, .bool b => some (.bool (if neg then !(a == b) else a == b))
  | _, _ => none

theorem eqb_ok (h : Inv K G σ w) {neg : Bool} {T : TypeId} (hT : K.P.underlying T = some .bool) {ox oy : Operand} {x y v : AV} {vx vy : Value} (hx : Rep G x vx) (hy : Rep G y vy) (he : eEqb neg x y = some v) :
    SemOK K G w (do eqGuard (if neg then .neq else .eql) T ox oy vx vy; binOp (if neg then .neq else .eql) T vx vy) v σ := by
  cases x <;> cases y <;> first | (simp [eEqb] at he; done) | skip
  rename_i a b
  rw [show vx = .bool a from hx, show vy = .bool b from hy]
  simp only [eEqb, Option.some.injEq] at he
  subst he
  refine SemOK.pure' h ?_ rfl
  rw [eqGuard_at_bool]
  cases neg <;> simp [run_eql_bool, run_neq_bool, hT]

/-! ### structs of plain cells -/
def scEq : SK → AV → AV → Option Bool
  | .bool, .bool a, .bool b => some (a == b)
  | .int, .int k a, .int k' b => if k = k' then some (a == b) else none
  | .str, .str a, .str b => some (a.toList == b.toList)
  | _, _, _ => none

def rowEq : List SK → List AV → List AV → Option Bool
  | [], [], [] => some true
  | s :: sh, x :: xs, y :: ys => match scEq s x y with
    | some true => rowEq sh xs ys
    | some false => match rowEq sh xs ys with | some _ => some false | none => none
    | none => none
  | _, _, _ => none

def eEqs (neg : Bool) (sh : List SK) : AV → AV → Option AV
  | .agg xs, .agg ys => match rowEq sh xs ys with
    | some b => some (.bool (if neg then !b else b))
    | none => none
  | _, _ => none

def skOf (P : Program) (T : TypeId) : Option SK :=
  match P.underlying T with
  | some .bool => some .bool
  | some (.int _) => some .int
  | some .string => some .str
  | _ => none

/-- the kinds of a struct's fields, from a place on -/
def skFields (P : Program) (i : Nat) : List Field → Option (List SK)
  | [] => some []
  | f :: fs => match skOf P f.type, skFields P (i + 1) fs with
    | some s, some sh => if f.name ≠ "_" ∧ f.offset = i then some (s :: sh) else none
    | _, _ => none

def eqSh (P : Program) (T : TypeId) : Option (List SK) :=
  match P.underlying T with
  | some (.struct fs) => if P.stoodInHeld T = false ∧ P.eqGuardType P.depth T = false then skFields P 0 fs.toList else none
  | some (.array n e) => if n = 2 ∧ P.eqGuardType P.depth T = false ∧ szOf P e = some 1 then match skOf P e with | some s => some [s, s] | none => none else none
  | _ => none

theorem scEq_run {P : Program} {T : TypeId} {s : SK} (hs : skOf P T = some s) {x y : AV} {vx vy : Value} (hx : Rep G x vx) (hy : Rep G y vy) {b : Bool} (he : scEq s x y = some b) (d : Nat) (w : World) :
    (Op.equalIn (d + 1) T vx vy).run P w = .ok b w := by
  unfold skOf at hs
  split at hs <;> first | (cases hs; done) | skip
  all_goals
    rename_i hu
    cases hs
    cases x <;> cases y <;> first | (simp [scEq] at he; done) | skip
  · rename_i a b'
    rw [show vx = .bool a from hx, show vy = .bool b' from hy]
    simp only [scEq, Option.some.injEq] at he; subst he
    exact run_equalIn_bool' w d T a b' hu
  · rename_i k a k' b'
    rw [show vx = .int k a from hx, show vy = .int k' b' from hy]
    simp only [scEq] at he
    split at he
    · rename_i hk; subst hk; cases he; exact run_equalIn_int w d T k _ a b' hu
    · cases he
  · rename_i a b'
    rw [show vx = .string a from hx, show vy = .string b' from hy]
    simp only [scEq, Option.some.injEq] at he; subst he
    exact run_equalIn_string w d T a b' hu

theorem part_cell {P : Program} {T : TypeId} {s : SK} (hs : skOf P T = some s) {xs : Array Value} {i : Nat} {v : Value} (hv : xs[i]? = some v) (w : World) : (part T xs i).run P w = .ok v w := by
  unfold skOf at hs
  split at hs <;> first | (cases hs; done) | skip
  all_goals
    rename_i hu
    simp [part, isAgg, run_underlying hu, hv]

theorem fields_run {P : Program} {xs ys : Array Value} (d : Nat) : ∀ (fs : List Field) (i : Nat) (sh : List SK) (as bs : List AV) (b : Bool), skFields P i fs = some sh →
    RepL G as (xs.toList.drop i) → RepL G bs (ys.toList.drop i) → rowEq sh as bs = some b → ∀ w, (Op.eqFields (d + 1) xs ys fs).run P w = .ok b w := by
  intro fs
  induction fs with
  | nil =>
    intro i sh as bs b hs h1 h2 he w
    simp only [skFields, Option.some.injEq] at hs
    subst hs
    cases as <;> cases bs <;> first | (simp [rowEq] at he; done) | skip
    simp only [rowEq, Option.some.injEq] at he; subst he
    simp [Op.eqFields]
  | cons f fs ih =>
    intro i sh as bs b hs h1 h2 he w
    simp only [skFields] at hs
    split at hs <;> first | (cases hs; done) | skip
    rename_i s sh' e1 e2
    split at hs <;> first | (cases hs; done) | skip
    rename_i hc
    cases hs
    cases as with
    | nil => simp [rowEq] at he
    | cons a as =>
      cases bs with
      | nil => simp [rowEq] at he
      | cons c bs =>
        obtain ⟨u, r, hu, hru, hrr⟩ := h1
        obtain ⟨u', r', hu', hru', hrr'⟩ := h2
        have x1 : xs[i]? = some u := by
          have := List.getElem?_drop (xs := xs.toList) (i := i) (j := 0); rw [hu] at this; simpa using this.symm
        have y1 : ys[i]? = some u' := by
          have := List.getElem?_drop (xs := ys.toList) (i := i) (j := 0); rw [hu'] at this; simpa using this.symm
        have hr1 : xs.toList.drop (i + 1) = r := by rw [← List.drop_drop, hu]; rfl
        have hr2 : ys.toList.drop (i + 1) = r' := by rw [← List.drop_drop, hu']; rfl
        have p1 := fun w => part_cell e1 x1 w
        have p2 := fun w => part_cell e1 y1 w
        simp only [rowEq] at he
        simp only [Op.eqFields]
        rw [if_pos hc.1]
        simp only [Sem.run_bind, hc.2, p1, p2, Result.andThen_ok]
        cases hsc : scEq s a c with
        | none => simp [hsc] at he
        | some b0 =>
          rw [scEq_run e1 hru hru' hsc d w]
          simp only [Result.andThen_ok]
          cases b0 with
          | true =>
            simp only [hsc] at he
            simp only [Bool.not_true, Bool.false_eq_true, if_false]
            exact ih (i + 1) sh' as bs b e2 (by rw [hr1]; exact hrr) (by rw [hr2]; exact hrr') he w
          | false =>
            simp only [hsc] at he
            split at he <;> first | (cases he; done) | skip
            cases he
            simp

theorem run_equalIn_arr2 {P : Program} {T e : TypeId} (hu : P.underlying T = some (.array 2 e)) (hsz : szOf P e = some 1) {xs ys : Array Value} {u0 u1 v0 v1 : Value}
    (p0 : ∀ w, (part e xs 0).run P w = .ok u0 w) (p1 : ∀ w, (part e xs 1).run P w = .ok u1 w) (q0 : ∀ w, (part e ys 0).run P w = .ok v0 w) (q1 : ∀ w, (part e ys 1).run P w = .ok v1 w) (d : Nat)
    {b0 b1 : Bool} (h0 : ∀ w, (Op.equalIn d e u0 v0).run P w = .ok b0 w) (h1 : b0 = true → ∀ w, (Op.equalIn d e u1 v1).run P w = .ok b1 w) (w : World) :
    (Op.equalIn (d + 1) T (.agg xs) (.agg ys)).run P w = .ok (b0 && b1) w := by
  simp only [Op.equalIn, Sem.run_bind, run_underlying hu, Result.andThen_ok, szOf_run hsz]
  simp only [Std.Legacy.Range.forIn_eq_forIn_range', Std.Legacy.Range.size, List.range']
  simp only [List.forIn_cons, List.forIn_nil, Sem.run_bind, Nat.zero_add, Nat.mul_one, p0, q0, Result.andThen_ok, h0]
  cases b0 with
  | false => simp
  | true =>
    have h1' := h1 rfl
    cases b1 <;> simp [p1, q1, h1']

theorem eqs_run {P : Program} {T : TypeId} {sh : List SK} (hs : eqSh P T = some sh) {as bs : List AV} {xs ys : Array Value} (h1 : RepL G as xs.toList) (h2 : RepL G bs ys.toList) {b : Bool} (he : rowEq sh as bs = some b) (w : World) :
    (Op.equalIn 10000 T (.agg xs) (.agg ys)).run P w = .ok b w ∧ P.eqGuardType P.depth T = false := by
  unfold eqSh at hs
  split at hs
  · rename_i fs hu
    split at hs
    · rename_i hc
      refine ⟨?_, hc.2⟩
      have hf : P.fieldsOf T = fs := by simp [Program.fieldsOf, hu]
      rw [run_equalIn_agg w 9999 T xs ys (by rw [hf]; exact hu) hc.1, hf]
      exact fields_run 9998 fs.toList 0 sh as bs b hs (by simpa using h1) (by simpa using h2) he w
    · cases hs
  · rename_i n e hu
    split at hs
    · rename_i hc
      obtain ⟨rfl, hg, hsz⟩ := hc
      refine ⟨?_, hg⟩
      split at hs
      · rename_i s hsk
        cases hs
        cases as with
        | nil => simp [rowEq] at he
        | cons a0 as =>
        cases bs with
        | nil => simp [rowEq] at he
        | cons b0 bs =>
        obtain ⟨u0, r, hx, k1, k2⟩ := h1
        obtain ⟨v0, q, hy, m1, m2⟩ := h2
        simp only [rowEq] at he
        cases as with
        | nil => cases hsc : scEq s a0 b0 with
          | none => simp [hsc] at he
          | some t => cases t <;> simp [hsc, rowEq] at he
        | cons a1 as =>
        cases bs with
        | nil => cases hsc : scEq s a0 b0 with
          | none => simp [hsc] at he
          | some t => cases t <;> simp [hsc, rowEq] at he
        | cons b1 bs =>
        obtain ⟨u1, r', e', k3, k4⟩ := k2
        obtain ⟨v1, q', f', m3, m4⟩ := m2
        have x0 : xs[0]? = some u0 := by rw [← Array.getElem?_toList, hx]; rfl
        have x1 : xs[1]? = some u1 := by rw [← Array.getElem?_toList, hx, e']; rfl
        have y0 : ys[0]? = some v0 := by rw [← Array.getElem?_toList, hy]; rfl
        have y1 : ys[1]? = some v1 := by rw [← Array.getElem?_toList, hy, f']; rfl
        cases hsc : scEq s a0 b0 with
        | none => simp [hsc] at he
        | some t0 =>
        have hb : ∃ t1, scEq s a1 b1 = some t1 ∧ b = (t0 && t1) := by
          simp only [hsc, rowEq] at he
          cases hs1 : scEq s a1 b1 with
          | none => cases t0 <;> simp [hs1] at he
          | some t1 =>
            refine ⟨t1, rfl, ?_⟩
            cases as <;> cases bs <;> cases t0 <;> cases t1 <;> simp [hs1, rowEq] at he ⊢ <;> simp [he]
        obtain ⟨t1, hs1, rfl⟩ := hb
        exact run_equalIn_arr2 hu hsz (fun w => part_cell hsk x0 w) (fun w => part_cell hsk x1 w) (fun w => part_cell hsk y0 w) (fun w => part_cell hsk y1 w) 9999
          (fun w => scEq_run hsk k1 m1 hsc 9998 w) (fun _ w => scEq_run hsk k3 m3 hs1 9998 w) w
      · cases hs
    · cases hs
  · cases hs

theorem eqs_ok (h : Inv K G σ w) {neg : Bool} {T : TypeId} {sh : List SK} (hs : eqSh K.P T = some sh) {ox oy : Operand} {x y v : AV} {vx vy : Value} (hx : Rep G x vx) (hy : Rep G y vy) (he : eEqs neg sh x y = some v) :
    SemOK K G w (do eqGuard (if neg then .neq else .eql) T ox oy vx vy; binOp (if neg then .neq else .eql) T vx vy) v σ := by
  cases x <;> cases y <;> first | (simp [eEqs] at he; done) | skip
  obtain ⟨xs, rfl, h1⟩ := hx
  obtain ⟨ys, rfl, h2⟩ := hy
  simp only [eEqs] at he
  split at he
  · rename_i b hb
    cases he
    obtain ⟨k1, k2⟩ := eqs_run hs h1 h2 hb w
    refine SemOK.pure' h ?_ rfl
    simp only [Sem.run_bind, run_eqGuard_agg w _ T ox oy xs ys k2, Result.andThen_ok]
    cases neg <;> simp [run_eql_struct, run_neq_struct, k1]
  · cases he

/-! ### pointers -/
def eEqp (neg : Bool) (x y : AV) : Option AV :=
  match x, y with
  | .ptr id off, .ptr id' off' => if id = id' then some (.bool (if neg then !(off == off') else off == off')) else none
  | .nilp, .nilp => some (.bool (!neg))
  | .nilp, .ptr _ _ => some (.bool neg)
  | .ptr _ _, .nilp => some (.bool neg)
  | .nilp, .rp _ => some (.bool neg)
  | .rp _, .nilp => some (.bool neg)
  | _, _ => none

section
variable {P : Program} {T : TypeId} (w : World) (d : Nat)
theorem eqIn_pn {e : TypeId} (hT : P.underlying T = some (.pointer e)) (q : Option Addr) : (Op.equalIn (d + 1) T (.pointer none) (.pointer q)).run P w = .ok q.isNone w := by simp [Op.equalIn, run_underlying hT]
theorem eqIn_np {e : TypeId} (hT : P.underlying T = some (.pointer e)) (a : Addr) : (Op.equalIn (d + 1) T (.pointer (some a)) (.pointer none)).run P w = .ok false w := by simp [Op.equalIn, run_underlying hT]
theorem eqIn_pp {e n : Nat} (hT : P.underlying T = some (.pointer e)) (hn : szOf P e = some n) (h0 : n ≠ 0) (b o o' : Nat) : (Op.equalIn (d + 1) T (.pointer (some ⟨b, o, none⟩)) (.pointer (some ⟨b, o', none⟩))).run P w = .ok (o == o') w := by
  simp [Op.equalIn, run_underlying hT, szOf_run hn, h0, sameAddr]
  rw [Bool.eq_iff_iff]; simp
theorem eqIn_sl {e : TypeId} (hT : P.underlying T = some (.slice e)) (a : Option Addr) (l c : Nat) : (Op.equalIn (d + 1) T (.slice a l c) (.slice none 0 0)).run P w = .ok a.isNone w := by
  cases a <;> simp [Op.equalIn, run_underlying hT]
theorem eqIn_map {k e : TypeId} (hT : P.underlying T = some (.map k e)) (a : Option Nat) : (Op.equalIn (d + 1) T (.map a) (.map none)).run P w = .ok a.isNone w := by
  cases a <;> simp [Op.equalIn, run_underlying hT]
theorem eqIn_fn0 {p r : Array TypeId} {v : Bool} (hT : P.underlying T = some (.func p r v)) : (Op.equalIn (d + 1) T .nilFunc .nilFunc).run P w = .ok true w := by simp [Op.equalIn, run_underlying hT]
theorem eqIn_fn1 {p r : Array TypeId} {v : Bool} (hT : P.underlying T = some (.func p r v)) (f : Fn) (a c : Array Value) : (Op.equalIn (d + 1) T (.func f a c) .nilFunc).run P w = .ok false w := by simp [Op.equalIn, run_underlying hT]
theorem eqIn_if0 {ms : Array (String × TypeId)} (hT : P.underlying T = some (.interface ms)) : (Op.equalIn (d + 1) T .nilIface .nilIface).run P w = .ok true w := by simp [Op.equalIn, run_underlying hT]
theorem eqIn_if1 {ms : Array (String × TypeId)} (hT : P.underlying T = some (.interface ms)) (t : TypeId) (u : Value) : (Op.equalIn (d + 1) T (.iface t u) .nilIface).run P w = .ok false w := by simp [Op.equalIn, run_underlying hT]
end

theorem run_equal_ptr {P : Program} {T e : TypeId} {n : Nat} (hT : P.underlying T = some (.pointer e)) (hn : szOf P e = some n) (h0 : n ≠ 0) (b o o' : Nat) (w : World) :
    (Op.equal T (.pointer (some ⟨b, o, none⟩)) (.pointer (some ⟨b, o', none⟩))).run P w = .ok (o == o') w := by
  exact eqIn_pp w 9999 hT hn h0 b o o'

theorem eqp_ok (h : Inv K G σ w) {neg : Bool} {T e : TypeId} {n : Nat} (hT : K.P.underlying T = some (.pointer e)) (hn : szOf K.P e = some n) (h0 : n ≠ 0) {ox oy : Operand} {x y v : AV} {vx vy : Value} (hx : Rep G x vx) (hy : Rep G y vy) (he : eEqp neg x y = some v) :
    SemOK K G w (do eqGuard (if neg then .neq else .eql) T ox oy vx vy; binOp (if neg then .neq else .eql) T vx vy) v σ := by
  have key : ∀ (p q : Option Addr) (b : Bool), (Op.equal T (.pointer p) (.pointer q)).run K.P w = .ok b w →
      (do eqGuard (if neg then .neq else .eql) T ox oy (.pointer p) (.pointer q); binOp (if neg then .neq else .eql) T (.pointer p) (.pointer q) : Sem Value).run K.P w = .ok (.bool (if neg then !b else b)) w := by
    intro p q b hb
    rw [eqGuard_at_pointer]
    cases neg <;> simp [binOp, hb]
  have nil1 : ∀ q, (Op.equal T (.pointer none) (.pointer q)).run K.P w = .ok q.isNone w := fun q => eqIn_pn w 9999 hT q
  have nil2 : ∀ a, (Op.equal T (.pointer (some a)) (.pointer none)).run K.P w = .ok false w := fun a => eqIn_np w 9999 hT a
  unfold eEqp at he
  split at he
  · split at he
    · rename_i hid
      subst hid
      cases he
      obtain ⟨b, hb, rfl⟩ := hx
      obtain ⟨b', hb', rfl⟩ := hy
      rw [hb] at hb'; cases hb'
      exact SemOK.pure' h (key _ _ _ (run_equal_ptr hT hn h0 b _ _ w)) rfl
    · cases he
  · cases he
    rw [show vx = .pointer none from hx, show vy = .pointer none from hy]
    exact SemOK.pure' h (key _ _ _ (nil1 _)) (by cases neg <;> rfl)
  · cases he
    rw [show vx = .pointer none from hx]
    obtain ⟨b', hb', rfl⟩ := hy
    exact SemOK.pure' h (key _ _ _ (nil1 _)) (by cases neg <;> rfl)
  · cases he
    rw [show vy = .pointer none from hy]
    obtain ⟨b', hb', rfl⟩ := hx
    exact SemOK.pure' h (key _ _ _ (nil2 _)) (by cases neg <;> rfl)
  · cases he
    rw [show vx = .pointer none from hx]
    obtain ⟨b', o, rfl, _⟩ := hy
    exact SemOK.pure' h (key _ _ _ (nil1 _)) (by cases neg <;> rfl)
  · cases he
    rw [show vy = .pointer none from hy]
    obtain ⟨b', o, rfl, _⟩ := hx
    exact SemOK.pure' h (key _ _ _ (nil2 _)) (by cases neg <;> rfl)
  · cases he

/-! ### against nil -/
def isNil : AV → Option Bool
  | .nilp => some true
  | .ptr _ _ => some false
  | .rp _ => some false
  | .sl .nil _ _ => some true
  | .sl _ _ (_ :: _) => some false
  | .nilm => some true
  | .map _ => some false
  | .nilf => some true
  | .fn _ _ _ => some false
  | .nili => some true
  | .ifc _ _ => some false
  | _ => none

def eEqnil (neg : Bool) (x : AV) : Option AV :=
  match isNil x with
  | some b => some (.bool (if neg then !b else b))
  | none => none

/-- the nil of a type -/
def nilFor (P : Program) (T : TypeId) (x : AV) (n : Value) : Prop :=
  match P.underlying T, x with
  | some (.pointer _), .nilp | some (.pointer _), .ptr _ _ | some (.pointer _), .rp _ => n = .pointer none
  | some (.slice _), .sl _ _ _ => n = .slice none 0 0
  | some (.map _ _), .nilm | some (.map _ _), .map _ => n = .map none
  | some (.func _ _ _), .nilf | some (.func _ _ _), .fn _ _ _ => n = .nilFunc
  | some (.interface _), .nili | some (.interface _), .ifc _ _ => n = .nilIface
  | _, _ => False

theorem eqnil_ok (h : Inv K G σ w) {neg : Bool} {T : TypeId} {ox : Operand} {n : Value} {x v : AV} {vx : Value} (hn : nilFor K.P T x n) (hx : Rep G x vx) (he : eEqnil neg x = some v) :
    SemOK K G w (do eqGuard (if neg then .neq else .eql) T ox (.const n) vx n; binOp (if neg then .neq else .eql) T vx n) v σ := by
  unfold eEqnil at he
  split at he <;> first | (cases he; done) | skip
  rename_i b hb
  cases he
  have key : ∀ (vx n : Value), eqGuard (if neg then .neq else .eql) T ox (.const n) vx n = pure () → (∀ op, (op = .eql ∨ op = .neq) → binOp op T vx n = (if op = .eql then (do pure (.bool (← Op.equal T vx n)) : Sem Value) else do pure (.bool (!(← Op.equal T vx n))))) →
      (Op.equal T vx n).run K.P w = .ok b w →
      (do eqGuard (if neg then .neq else .eql) T ox (.const n) vx n; binOp (if neg then .neq else .eql) T vx n : Sem Value).run K.P w = .ok (.bool (if neg then !b else b)) w := by
    intro vx n h1 h2 h3
    rw [h1]
    cases neg
    · simp [h2 .eql (.inl rfl), h3]
    · simp [h2 .neq (.inr rfl), h3]
  unfold nilFor at hn
  split at hn <;> first | exact hn.elim | skip
  all_goals rename_i hu
  all_goals subst hn
  · cases hb; rw [show vx = .pointer none from hx]
    exact SemOK.pure' h (key _ _ (eqGuard_at_pointer ..) (by rintro op (rfl | rfl) <;> rfl) (eqIn_pn w 9999 hu _)) rfl
  · cases hb; obtain ⟨b', hb', rfl⟩ := hx
    exact SemOK.pure' h (key _ _ (eqGuard_at_pointer ..) (by rintro op (rfl | rfl) <;> rfl) (eqIn_np w 9999 hu _)) rfl
  · cases hb; obtain ⟨b', o, rfl, _⟩ := hx
    exact SemOK.pure' h (key _ _ (eqGuard_at_pointer ..) (by rintro op (rfl | rfl) <;> rfl) (eqIn_np w 9999 hu _)) rfl
  · obtain ⟨a, l, c, rfl, hs⟩ := hx
    refine SemOK.pure' h (key _ _ (eqGuard_at_slice ..) (by rintro op (rfl | rfl) <;> rfl) ?_) rfl
    have : b = a.isNone := by
      rename_i o es els
      cases o with
      | nil =>
        have : a = none := hs.hown
        subst this
        simp [isNil] at hb; simpa using hb
      | _ =>
        cases els with
        | nil => simp [isNil] at hb
        | cons e1 e2 =>
          simp [isNil] at hb
          cases a with
          | none => have h1 := hs.hnil rfl; have h2 := hs.hlen; have h3 := hs.hcap; simp at h2; omega
          | some ad => simpa using hb
    subst this
    exact eqIn_sl w 9999 hu a l c
  · cases hb; rw [show vx = .map none from hx]
    exact SemOK.pure' h (key _ _ (eqGuard_at_map ..) (by rintro op (rfl | rfl) <;> rfl) (eqIn_map w 9999 hu _)) rfl
  · cases hb; obtain ⟨b', hb', rfl⟩ := hx
    exact SemOK.pure' h (key _ _ (eqGuard_at_map ..) (by rintro op (rfl | rfl) <;> rfl) (eqIn_map w 9999 hu _)) rfl
  · cases hb; rw [show vx = .nilFunc from hx]
    exact SemOK.pure' h (key _ _ (eqGuard_at_nilFunc ..) (by rintro op (rfl | rfl) <;> rfl) (eqIn_fn0 w 9999 hu)) rfl
  · cases hb; obtain ⟨a, c, rfl, _⟩ := hx
    exact SemOK.pure' h (key _ _ (eqGuard_at_func ..) (by rintro op (rfl | rfl) <;> rfl) (eqIn_fn1 w 9999 hu _ _ _)) rfl
  · cases hb; rw [show vx = .nilIface from hx]
    exact SemOK.pure' h (key _ _ (eqGuard_nil_constR ..) (by rintro op (rfl | rfl) <;> rfl) (eqIn_if0 w 9999 hu)) rfl
  · cases hb; obtain ⟨u, rfl, _⟩ := hx
    exact SemOK.pure' h (key _ _ (eqGuard_at_iface ..) (by rintro op (rfl | rfl) <;> rfl) (eqIn_if1 w 9999 hu _ _)) rfl

/-! ### small ones -/
def ePick (c a b : AV) : Option AV :=
  match c with
  | .bool t => some (if t then a else b)
  | _ => none

theorem pick_ok {c a b v : AV} {vc va vb : Value} (hc : Rep G c vc) (ha : Rep G a va) (hb : Rep G b vb) (he : ePick c a b = some v) :
    ∃ val, (∀ w, (do pure (if ← asBool vc then va else vb) : Sem Value).run K.P w = .ok val w) ∧ Rep G v val := by
  cases c <;> first | (simp [ePick] at he; done) | skip
  rename_i t
  rw [show vc = .bool t from hc]
  simp only [ePick, Option.some.injEq] at he
  subst he
  cases t
  · exact ⟨vb, fun w => by simp [asBool], hb⟩
  · exact ⟨va, fun w => by simp [asBool], ha⟩

def eNilck : AV → Option AV
  | .ptr id off => some (.ptr id off)
  | .rp row => some (.rp row)
  | .ifc t x => some (.ifc t x)
  | _ => none

def eMm (mx : Bool) : AV → AV → Option AV
  | .int k a, .int _ b => some (.int k (if mx then (if b > a then b else a) else (if b < a then b else a)))
  | _, _ => none

theorem mm_ok (h : Inv K G σ w) {mx : Bool} {ts : Array TypeId} {t : TypeId} {x y v : AV} {vx vy : Value} (hx : Rep G x vx) (hy : Rep G y vy) (he : eMm mx x y = some v) :
    SemOK K G w (if mx then Builtin.max_ ts t #[vx, vy] else Builtin.min_ ts t #[vx, vy]) v σ := by
  cases x <;> cases y <;> first | (simp [eMm] at he; done) | skip
  rename_i k a k' b
  rw [show vx = .int k a from hx, show vy = .int k' b from hy]
  simp only [eMm, Option.some.injEq] at he
  subst he
  cases mx
  · exact SemOK.pure' h (by simp [run_min_int2]) rfl
  · exact SemOK.pure' h (by simp [run_max_int2]) rfl

def eExtr (i : Nat) : AV → Option AV
  | .tup cs => cs[i]?
  | _ => none

theorem extr_ok (h : Inv K G σ w) {i : Nat} {x v : AV} {vx : Value} (hx : Rep G x vx) (he : eExtr i x = some v) : SemOK K G w (Instr.extract vx i) v σ := by
  cases x <;> first | (simp [eExtr] at he; done) | skip
  obtain ⟨vs, rfl, hr⟩ := hx
  obtain ⟨u, hu, hru⟩ := hr.get i v he
  have hu' : vs[i]? = some u := by simpa using hu
  exact SemOK.pure' h (by simp [Instr.extract, hu']) hru

def isIface (P : Program) (T : TypeId) : Bool :=
  match P.underlying T with
  | some (.interface _) => true
  | none => true
  | _ => false

theorem mkif_ok (h : Inv K G σ w) {T : TypeId} (hT : isIface K.P T = false) {x : AV} {vx : Value} (hx : Rep G x vx) : SemOK K G w (Instr.makeInterface T vx) (.ifc T x) σ := by
  unfold isIface at hT
  cases hd : K.P.underlying T with
  | none => simp [hd] at hT
  | some d => cases d <;> first | (simp [hd] at hT; done) | exact SemOK.pure' h (by simp [Instr.makeInterface, run_underlying hd]) ⟨vx, rfl, hx⟩

/-- a slice of bytes as a string -/
def bytesOf : List AV → Option (List UInt8)
  | [] => some []
  | .int .u8 n :: r => match bytesOf r with
    | some l => some (UInt8.ofNat n.toNat :: l)
    | none => none
  | _ => none

def eB2s : AV → Option AV
  | .sl _ es els => if es = 1 ∨ els = [] then match bytesOf els with
    | some l => some (.str ⟨l.toArray⟩)
    | none => none
    else none
  | _ => none

end
end Go.Av
