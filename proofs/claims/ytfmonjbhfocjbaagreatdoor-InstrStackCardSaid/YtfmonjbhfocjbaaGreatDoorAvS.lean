/- How shallow forms are walked: what each operation comes to. -/
import Derived.Test.YtfmonjbhfocjbaaGreatDoorAvX
namespace Go.Av
open Go Go.RowKit

/-! ### the store -/
@[simp] theorem get_len {α : Type} (σ l : List α) (k : Nat) : (σ ++ l)[σ.length + k]? = l[k]? := by
  rw [List.getElem?_append_right (by omega)]; congr 1; omega
@[simp] theorem get_len0 {α : Type} (σ l : List α) : (σ ++ l)[σ.length]? = l[0]? := get_len σ l 0
@[simp] theorem set_len {α : Type} (σ l : List α) (k : Nat) (x : α) : (σ ++ l).set (σ.length + k) x = σ ++ l.set k x := by
  rw [List.set_append_right _ _ (by omega)]; congr 2; omega
@[simp] theorem set_len0 {α : Type} (σ l : List α) (x : α) : (σ ++ l).set σ.length x = σ ++ l.set 0 x := set_len σ l 0 x
theorem get_low {α : Type} {σ l : List α} {i : Nat} {a : α} (h : σ[i]? = some a) : (σ ++ l)[i]? = some a := by
  rw [List.getElem?_append_left (List.getElem?_eq_some_iff.1 h).1]; exact h
theorem set_low {α : Type} {σ l : List α} {i : Nat} {a b : α} (h : σ[i]? = some b) : (σ ++ l).set i a = σ.set i a ++ l :=
  List.set_append_left _ _ (List.getElem?_eq_some_iff.1 h).1
@[simp] theorem take_len {α : Type} (σ l : List α) : (σ ++ l).take σ.length = σ := List.take_left

/-! ### control -/
@[simp] theorem s_andR (v : AV) (σ : Store) (f : AV → Store → Res) : andR (some (v, σ)) f = f v σ := rfl
@[simp] theorem s_andR_none (f : AV → Store → Res) : andR none f = none := rfl
@[simp] theorem s_ret (σ : Store) (v : AV) : ret σ (some v) = some (v, σ) := rfl
@[simp] theorem s_ret_none (σ : Store) : ret σ none = none := rfl
@[simp] theorem s_stR (σ : Store) : stR (some σ) = some (.tup [], σ) := rfl
@[simp] theorem s_stU (σ : Store) : stU (some σ) = some (.tup [], σ) := rfl
@[simp] theorem s_iff_t (a b : Res) : iff' (.bool true) a b = a := rfl
@[simp] theorem s_iff_f (a b : Res) : iff' (.bool false) a b = b := rfl
theorem s_iff (c : Bool) (a b : Res) : iff' (.bool c) a b = if c = true then a else b := by cases c <;> rfl
@[simp] theorem s_guard_tt (σ : Store) (r : Res) : guardO (.bool true) true σ r = r := rfl
@[simp] theorem s_guard_ff (σ : Store) (r : Res) : guardO (.bool false) false σ r = r := rfl
@[simp] theorem s_guard_tf (σ : Store) (r : Res) : guardO (.bool true) false σ r = some (.tup [], σ) := rfl
@[simp] theorem s_guard_ft (σ : Store) (r : Res) : guardO (.bool false) true σ r = some (.tup [], σ) := rfl
@[simp] theorem s_guard_u (b : Bool) (σ : Store) (r : Res) : guardO (.tup []) b σ r = some (.tup [], σ) := rfl
@[simp] theorem s_again (d : AV) (σ : Store) (k : Res) : againO (some (d, σ)) d k = k := againO_pos rfl
theorem s_again' {d d' : AV} (h : d' = d) (σ : Store) (k : Res) : againO (some (d', σ)) d k = k := againO_pos h
@[simp] theorem s_callV (C : CallO) (g : Nat) (fs cs args : List AV) (σ : Store) : callV C (.fn (.func g) fs cs) args σ = cond (Nat.blt g yb) (C g (fs ++ args ++ cs) σ) none := rfl
@[simp] theorem s_callR (C : CallO) (g : Nat) (fs cs args : List AV) (σ : Store) : callR C (.fn (.func g) fs cs) args σ = cond (Nat.blt g yb) (C (yb + yb + g) (fs ++ args ++ cs) σ) none := rfl
@[simp] theorem s_callY (C : CallO) (i : Nat) (args : List AV) (σ : Store) : callV C (.yld i) args σ = cond (Nat.blt i yb) (C (yb + i) args σ) none := rfl

/-! ### one step -/
/-- it comes to a value and a store of which something holds -/
def Out (Q : AV → Store → Prop) (x : Res) : Prop := ∃ v s, x = some (v, s) ∧ Q v s

section
variable {Q : AV → Store → Prop} {x y : Res} {f : AV → Store → Res} {v d c c' : AV} {s σ : Store} {k a b : Res}
theorem Out.done (h : Q v s) : Out Q (some (v, s)) := ⟨v, s, rfl, h⟩
theorem Out.eq (h : x = y) (k : Out Q y) : Out Q x := by rw [h]; exact k
theorem Out.by (h : x = y) (k : Out Q (andR y f)) : Out Q (andR x f) := by rw [h]; exact k
theorem Out.go (k : Out Q (f v s)) : Out Q (andR (some (v, s)) f) := k
theorem Out.again_by (h : x = y) (hk : Out Q (againO y d k)) : Out Q (againO x d k) := by rw [h]; exact hk
theorem Out.again_go (hk : Out Q k) : Out Q (againO (some (d, s)) d k) := by rw [againO_pos rfl]; exact hk
theorem Out.iff_by (h : c = c') (hk : Out Q (iff' c' a b)) : Out Q (iff' c a b) := by rw [h]; exact hk
theorem Out.iff_t (h : Out Q a) : Out Q (iff' (.bool true) a b) := h
theorem Out.iff_f (h : Out Q b) : Out Q (iff' (.bool false) a b) := h
theorem Out.iff_split {p : Bool} (h1 : p = true → Out Q a) (h2 : p = false → Out Q b) : Out Q (iff' (.bool p) a b) := by
  cases p
  · exact h2 rfl
  · exact h1 rfl
theorem Out.guard_t {p : Bool} (h1 : p = true → Out Q (andR y f)) (h2 : p = false → Out Q (f (.tup []) σ)) : Out Q (andR (guardO (.bool p) true σ y) f) := by
  cases p
  · exact h2 rfl
  · exact h1 rfl
theorem Out.guard_f {p : Bool} (h1 : p = true → Out Q (f (.tup []) σ)) (h2 : p = false → Out Q (andR y f)) : Out Q (andR (guardO (.bool p) false σ y) f) := by
  cases p
  · exact h2 rfl
  · exact h1 rfl
theorem Out.mono {Q' : AV → Store → Prop} (h : Out Q x) (hq : ∀ v s, Q v s → Q' v s) : Out Q' x := let ⟨v, s, h1, h2⟩ := h; ⟨v, s, h1, hq v s h2⟩
/-- a call in the middle -/
theorem Out.then {Q' : AV → Store → Prop} (h : Out Q' x) (hk : ∀ v s, Q' v s → Out Q (f v s)) : Out Q (andR x f) := let ⟨v, s, h1, h2⟩ := h; by rw [h1]; exact hk v s h2
end

theorem Out.ret_by {Q : AV → Store → Prop} {x : Option AV} {v : AV} {s : Store} (h : x = some v) (k : Q v s) : Out Q (ret s x) := ⟨v, s, by rw [h]; rfl, k⟩
theorem Out.leaf {σ l : Store} {v w : AV} (h : v.weak = w) : Out (fun v s => v.weak = w ∧ ∃ l, s = σ ++ l) (ret (σ ++ l) (some v)) := ⟨v, _, rfl, h, l, rfl⟩
theorem Out.leaf0 {σ : Store} {v w : AV} (h : v.weak = w) : Out (fun v s => v.weak = w ∧ ∃ l, s = σ ++ l) (ret σ (some v)) := ⟨v, _, rfl, h, [], by simp⟩
theorem Out.leafB {σ l : Store} {b c : Bool} (h : b = c) : Out (fun v s => v.weak = .bool c ∧ ∃ l, s = σ ++ l) (ret (σ ++ l) (some (.bool b))) := Out.leaf (by rw [h]; rfl)
theorem Out.leafB0 {σ : Store} {b c : Bool} (h : b = c) : Out (fun v s => v.weak = .bool c ∧ ∃ l, s = σ ++ l) (ret σ (some (.bool b))) := Out.leaf0 (by rw [h]; rfl)

theorem kept_app (σ l : Store) : keptS σ.length σ (σ ++ l) := fun h a ha => h a (by simpa using ha)

/-- a function that hands back a plain value and leaves the store as it was -/
theorem fin_plain {σ : Store} {w : AV} {X : Res} (hp : w.pure = true) (h : Out (fun v s => v.weak = w ∧ ∃ l, s = σ ++ l) X) : finR ⟨false, false⟩ σ X = some (w, σ) := by
  obtain ⟨v, s, rfl, hv, l, rfl⟩ := h
  simp only [finR, outR, cond_false]
  rw [if_pos ⟨by rw [hv]; exact hp, kept_app σ l, by simp⟩, hv]
  simp

/-- the results of a function -/
def consO (a : Option AV) (b : Option (List AV)) : Option (List AV) :=
  match a, b with
  | some v, some vs => some (v :: vs)
  | _, _ => none
@[simp] theorem consO_some (v : AV) (vs : List AV) : consO (some v) (some vs) = some (v :: vs) := rfl

/-! values -/
@[simp] theorem cells_bool (b : Bool) : AV.cells (.bool b) = [(.bool b)] := rfl
@[simp] theorem flat_bool (b : Bool) : AV.flat (.bool b) = true := rfl
@[simp] theorem isTop_bool (b : Bool) : AV.isTop (.bool b) = false := rfl
@[simp] theorem cells_int (k : IntKind) (n : Int) : AV.cells (.int k n) = [(.int k n)] := rfl
@[simp] theorem flat_int (k : IntKind) (n : Int) : AV.flat (.int k n) = true := rfl
@[simp] theorem isTop_int (k : IntKind) (n : Int) : AV.isTop (.int k n) = false := rfl
@[simp] theorem cells_str (s : ByteArray) : AV.cells (.str s) = [(.str s)] := rfl
@[simp] theorem flat_str (s : ByteArray) : AV.flat (.str s) = true := rfl
@[simp] theorem isTop_str (s : ByteArray) : AV.isTop (.str s) = false := rfl
@[simp] theorem cells_sl (o : Own) (e : Nat) (l : List AV) : AV.cells (.sl o e l) = [(.sl o e l)] := rfl
@[simp] theorem flat_sl (o : Own) (e : Nat) (l : List AV) : AV.flat (.sl o e l) = true := rfl
@[simp] theorem isTop_sl (o : Own) (e : Nat) (l : List AV) : AV.isTop (.sl o e l) = false := rfl
@[simp] theorem cells_sa (i o l c e : Nat) : AV.cells (.sa i o l c e) = [(.sa i o l c e)] := rfl
@[simp] theorem flat_sa (i o l c e : Nat) : AV.flat (.sa i o l c e) = true := rfl
@[simp] theorem isTop_sa (i o l c e : Nat) : AV.isTop (.sa i o l c e) = false := rfl
@[simp] theorem cells_ptr (i o : Nat) : AV.cells (.ptr i o) = [(.ptr i o)] := rfl
@[simp] theorem flat_ptr (i o : Nat) : AV.flat (.ptr i o) = true := rfl
@[simp] theorem isTop_ptr (i o : Nat) : AV.isTop (.ptr i o) = false := rfl
@[simp] theorem cells_nilp  : AV.cells .nilp = [.nilp] := rfl
@[simp] theorem flat_nilp  : AV.flat .nilp = true := rfl
@[simp] theorem isTop_nilp  : AV.isTop .nilp = false := rfl
@[simp] theorem cells_rp (r : List AV) : AV.cells (.rp r) = [(.rp r)] := rfl
@[simp] theorem flat_rp (r : List AV) : AV.flat (.rp r) = true := rfl
@[simp] theorem isTop_rp (r : List AV) : AV.isTop (.rp r) = false := rfl
@[simp] theorem cells_fn (f : Fn) (a c : List AV) : AV.cells (.fn f a c) = [(.fn f a c)] := rfl
@[simp] theorem flat_fn (f : Fn) (a c : List AV) : AV.flat (.fn f a c) = true := rfl
@[simp] theorem isTop_fn (f : Fn) (a c : List AV) : AV.isTop (.fn f a c) = false := rfl
@[simp] theorem cells_nilf  : AV.cells .nilf = [.nilf] := rfl
@[simp] theorem flat_nilf  : AV.flat .nilf = true := rfl
@[simp] theorem isTop_nilf  : AV.isTop .nilf = false := rfl
@[simp] theorem cells_map (m : Nat) : AV.cells (.map m) = [(.map m)] := rfl
@[simp] theorem flat_map (m : Nat) : AV.flat (.map m) = true := rfl
@[simp] theorem isTop_map (m : Nat) : AV.isTop (.map m) = false := rfl
@[simp] theorem cells_nilm  : AV.cells .nilm = [.nilm] := rfl
@[simp] theorem flat_nilm  : AV.flat .nilm = true := rfl
@[simp] theorem isTop_nilm  : AV.isTop .nilm = false := rfl
@[simp] theorem cells_ifc (t : TypeId) (x : AV) : AV.cells (.ifc t x) = [(.ifc t x)] := rfl
@[simp] theorem flat_ifc (t : TypeId) (x : AV) : AV.flat (.ifc t x) = true := rfl
@[simp] theorem isTop_ifc (t : TypeId) (x : AV) : AV.isTop (.ifc t x) = false := rfl
@[simp] theorem cells_nili  : AV.cells .nili = [.nili] := rfl
@[simp] theorem flat_nili  : AV.flat .nili = true := rfl
@[simp] theorem isTop_nili  : AV.isTop .nili = false := rfl
@[simp] theorem cells_yld (i : Nat) : AV.cells (.yld i) = [(.yld i)] := rfl
@[simp] theorem flat_yld (i : Nat) : AV.flat (.yld i) = true := rfl
@[simp] theorem isTop_yld (i : Nat) : AV.isTop (.yld i) = false := rfl
@[simp] theorem cells_agg (cs : List AV) : AV.cells (.agg cs) = cs := rfl
@[simp] theorem isTop_agg (cs : List AV) : AV.isTop (.agg cs) = false := rfl
@[simp] theorem cells_tup (cs : List AV) : AV.cells (.tup cs) = [.tup cs] := rfl
@[simp] theorem isTop_tup (cs : List AV) : AV.isTop (.tup cs) = false := rfl

/-! ### memory -/
@[simp] theorem s_box (σ : Store) (ty : TypeId) (row : List AV) : eBox σ ty row = (.ptr σ.length 0, σ ++ [.box ty row]) := rfl
theorem s_load {σ : Store} {id : Nat} {ty : TypeId} {row : List AV} (h : σ[id]? = some (.box ty row)) (ag : Bool) (n off : Nat) : eLoad σ ag n (.ptr id off) = loadRow ag n (row.drop off) := by simp only [eLoad, h]
def boxO : Option AO → Option (TypeId × List AV)
  | some (.box ty row) => some (ty, row)
  | _ => none
@[simp] theorem boxO_box (ty : TypeId) (row : List AV) : boxO (some (.box ty row)) = some (ty, row) := rfl
@[simp] theorem load_boxO (σ : Store) (ag : Bool) (n id off : Nat) : eLoad σ ag n (.ptr id off) = (boxO σ[id]?).bind fun p => loadRow ag n (p.2.drop off) := by
  simp only [eLoad]; cases h : σ[id]? with
  | none => rfl
  | some a => cases a <;> rfl
@[simp] theorem store_boxO (σ : Store) (n id off : Nat) (x : AV) : eStore σ n (.ptr id off) x = (boxO σ[id]?).bind fun p => if x.cells.length = n ∧ off + n ≤ p.2.length ∧ x.cells.all AV.flat = true then some (σ.set id (.box p.1 (setCells p.2 off x.cells))) else none := by
  simp only [eStore]; cases h : σ[id]? with
  | none => rfl
  | some a => cases a <;> rfl
@[simp] theorem s_load_rp (σ : Store) (ag : Bool) (n : Nat) (row : List AV) : eLoad σ ag n (.rp row) = loadRow ag n row := rfl
@[simp] theorem s_lrow_f (n : Nat) (c : AV) (r : List AV) : loadRow false n (c :: r) = some c := rfl
theorem s_lrow_t {n : Nat} {row : List AV} (h : n ≤ row.length) : loadRow true n row = some (.agg (row.take n)) := if_pos h
@[simp] theorem s_lrow_t' (n : Nat) (row : List AV) : loadRow true n row = if n ≤ row.length then some (.agg (row.take n)) else none := rfl
/-- an element -/
def elAt (l : List AV) (n : Nat) : Option AV := l[n]?
@[simp] theorem elAt_0 (a : AV) (l : List AV) : elAt (a :: l) 0 = some a := rfl
@[simp] theorem elAt_s (a : AV) (l : List AV) (n : Nat) : elAt (a :: l) (n + 1) = elAt l n := by simp [elAt]
@[simp] theorem s_idx (es es' : Nat) (o : Own) (els : List AV) (k : IntKind) (n : Int) : eIdx es (.sl o es' els) (.int k n) = if es = es' ∧ 0 ≤ n then (elAt els n.toNat).map (fun el => .rp el.cells) else none := by
  simp only [eIdx, elAt]; split
  · cases els[n.toNat]? <;> rfl
  · rfl
attribute [simp] eIdxa eIdxv eIdxs eNilck eEqb eEqnil isNil nkOk eNeg eConv eSls eSll eEqp
attribute [simp] eFoff eFld eExtr eNot eLens eLenl eCstr setCells eBuild eFill eBslV eBsl newsOf bnd

/-! ### append -/
def tokO : Option AO → Option (TypeId × Nat)
  | some (.tok ty top) => some (ty, top)
  | _ => none
@[simp] theorem tokO_tok (ty : TypeId) (top : Nat) : tokO (some (.tok ty top)) = some (ty, top) := rfl
@[simp] theorem s_app_nil (σ : Store) (ty : TypeId) (es es' by' : Nat) (o p : Own) (els : List AV) : eApp σ ty es by' (.sl o es' els) (.sl p es []) = some (.sl o es' els, σ) := by simp [eApp]
@[simp] theorem s_app_full (σ : Store) (ty : TypeId) (es es' by' : Nat) (p : Own) (els : List AV) (y : AV) (ys : List AV) : eApp σ ty es by' (.sl .full es' els) (.sl p es (y :: ys)) =
    if appBound (els.length + (ys.length + 1)) by' = true ∧ (es = es' ∨ els = []) then some (.sl (.tok σ.length) es (els ++ y :: ys), σ ++ [.tok ty (els.length + (ys.length + 1))]) else none := by simp [eApp]
@[simp] theorem s_app_nilo (σ : Store) (ty : TypeId) (es es' by' : Nat) (p : Own) (els : List AV) (y : AV) (ys : List AV) : eApp σ ty es by' (.sl .nil es' els) (.sl p es (y :: ys)) =
    if appBound (els.length + (ys.length + 1)) by' = true ∧ (es = es' ∨ els = []) then some (.sl (.tok σ.length) es (els ++ y :: ys), σ ++ [.tok ty (els.length + (ys.length + 1))]) else none := by simp [eApp]
@[simp] theorem s_app_tok (σ : Store) (ty : TypeId) (es by' t : Nat) (p : Own) (els : List AV) (y : AV) (ys : List AV) : eApp σ ty es by' (.sl (.tok t) es els) (.sl p es (y :: ys)) =
    (tokO σ[t]?).bind fun q => if appBound (els.length + (ys.length + 1)) by' = true ∧ q = (ty, els.length) then some (.sl (.tok t) es (els ++ y :: ys), σ.set t (.tok ty (els.length + (ys.length + 1)))) else none := by
  simp only [eApp, newsOf, true_or, if_true]
  cases h : σ[t]? with
  | none => simp [tokO]
  | some a => cases a <;> simp [tokO] <;> (try (split <;> split <;> simp_all <;> exact fun a b => (by assumption : _ → ¬ _) b a))

/-! ### numbers -/
section
variable (k : IntKind) (a b : Int)
@[simp] theorem s_add : eIbin .add (.int k a) (.int k b) = some (.int k (k.wrap (a + b))) := by simp [eIbin]
@[simp] theorem s_sub : eIbin .sub (.int k a) (.int k b) = some (.int k (k.wrap (a - b))) := by simp [eIbin]
@[simp] theorem s_mul : eIbin .mul (.int k a) (.int k b) = some (.int k (k.wrap (a * b))) := by simp [eIbin]
@[simp] theorem s_quo : eIbin .quo (.int k a) (.int k b) = if b = 0 then none else some (.int k (k.wrap (a.tdiv b))) := by simp [eIbin]
@[simp] theorem s_rem : eIbin .rem (.int k a) (.int k b) = if b = 0 then none else some (.int k (a.tmod b)) := by simp [eIbin]
@[simp] theorem s_eql : eIbin .eql (.int k a) (.int k b) = some (.bool (decide (a = b))) := by simp [eIbin]; exact Bool.beq_eq_decide_eq ..
@[simp] theorem s_neq : eIbin .neq (.int k a) (.int k b) = some (.bool (decide (a ≠ b))) := by simp [eIbin]; rfl
@[simp] theorem s_lss : eIbin .lss (.int k a) (.int k b) = some (.bool (decide (a < b))) := by simp [eIbin]
@[simp] theorem s_leq : eIbin .leq (.int k a) (.int k b) = some (.bool (decide (a ≤ b))) := by simp [eIbin]
@[simp] theorem s_gtr : eIbin .gtr (.int k a) (.int k b) = some (.bool (decide (b < a))) := by simp [eIbin]
@[simp] theorem s_geq : eIbin .geq (.int k a) (.int k b) = some (.bool (decide (b ≤ a))) := by simp [eIbin]
@[simp] theorem s_mm_f : eMm false (.int k a) (.int k b) = some (.int k (min a b)) := by
  simp only [eMm, Bool.false_eq_true, if_false, Int.min_def]
  congr 2
  split <;> split <;> omega
end
theorem wrap_succ {n : Nat} (h : n < 9223372036854775807) : IntKind.i64.wrap ((n : Int) + 1) = ((n + 1 : Nat) : Int) := by rw [IntKind.wrap_i64]; omega
theorem wrap_pred {n : Nat} (h0 : 0 < n) (h : n < 9223372036854775807) : IntKind.i64.wrap ((n : Int) - 1) = ((n - 1 : Nat) : Int) := by rw [IntKind.wrap_i64]; omega
theorem wrap64 {n : Int} (h0 : -9223372036854775808 ≤ n) (h1 : n ≤ 9223372036854775807) : IntKind.i64.wrap n = n := by
  rw [IntKind.wrap_i64]; omega
@[simp] theorem s_pick_t (a b : AV) : ePick (.bool true) a b = some a := rfl
@[simp] theorem s_pick_f (a b : AV) : ePick (.bool false) a b = some b := rfl
end Go.Av
