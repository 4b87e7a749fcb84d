/- The operations together: the evaluator's step, how an operation of the model is read, and that they agree. -/
import Derived.Test.YtfmonjbhfocjbaaGreatDoorAv8
import Derived.Test.YtfmonjbhfocjbaaGreatDoorAvM
namespace Go.Av
open Go Go.RowKit

def ev (gl : Nat → AV) (env : Env) : Opd → AV
  | .t n => env n
  | .c v => v
  | .g n => gl n

def ret (σ : Store) : Option AV → Option (AV × Store)
  | some v => some (v, σ)
  | none => none

def evO (gl : Nat → AV) (env : Env) : Option Opd → Option AV
  | some x => some (ev gl env x)
  | none => none

def nkOk : NK → AV → Bool
  | .ptr, .nilp => true
  | .ptr, .ptr _ _ => true
  | .ptr, .rp _ => true
  | .sl, .sl _ _ _ => true
  | .map, .nilm => true
  | .map, .map _ => true
  | .fn, .nilf => true
  | .fn, .fn _ _ _ => true
  | .ifc, .nili => true
  | .ifc, .ifc _ _ => true
  | _, _ => false

def stU : Option Store → Option (AV × Store)
  | some σ => some (.tup [], σ)
  | none => none

/-- one operation, no call -/
def eLO (gl : Nat → AV) (env : Env) (σ : Store) : LO → Option (AV × Store)
  | .mv x => some (ev gl env x, σ)
  | .pick c a b => ret σ (ePick (ev gl env c) (ev gl env a) (ev gl env b))
  | .alloc ty zero => some (eBox σ ty zero)
  | .box ty x => if (ev gl env x).cells.all AV.flat = true then some (eBox σ ty (ev gl env x).cells) else none
  | .build zero parts => ret σ (eBuild zero (parts.map fun p => (p.1, p.2.1, ev gl env p.2.2)))
  | .bsl es zero n parts => ret σ (eBslV es n zero (parts.map fun p => (p.1, ev gl env p.2)))
  | .load ag n a => ret σ (eLoad σ ag n (ev gl env a))
  | .store n a x => match eStore σ n (ev gl env a) (ev gl env x) with
    | some σ' => some (.tup [], σ')
    | none => none
  | .nilck x => ret σ (eNilck (ev gl env x))
  | .ibin op x y => ret σ (eIbin op (ev gl env x) (ev gl env y))
  | .sbin op x y => ret σ (eSbin op (ev gl env x) (ev gl env y))
  | .eqb neg x y => ret σ (eEqb neg (ev gl env x) (ev gl env y))
  | .eqs neg sh x y => ret σ (eEqs neg sh (ev gl env x) (ev gl env y))
  | .eqp neg x y => ret σ (eEqp neg (ev gl env x) (ev gl env y))
  | .eqnil nk neg x => if nkOk nk (ev gl env x) = true then ret σ (eEqnil neg (ev gl env x)) else none
  | .not x => ret σ (eNot (ev gl env x))
  | .neg x => ret σ (eNeg (ev gl env x))
  | .conv k x => ret σ (eConv k (ev gl env x))
  | .cstr x => ret σ (eCstr (ev gl env x))
  | .mkfn f fs cs => some (.fn f (fs.map (ev gl env)) (cs.map (ev gl env)), σ)
  | .sls x lo hi => ret σ (eSls (ev gl env x) (evO gl env lo) (evO gl env hi))
  | .sll es x lo hi mx => ret σ (eSll es (ev gl env x) (evO gl env lo) (evO gl env hi) (evO gl env mx))
  | .sla n es x lo hi => ret σ (eSla n es (ev gl env x) (evO gl env lo) (evO gl env hi))
  | .foff off x => ret σ (eFoff off (ev gl env x))
  | .fld ag off n x => ret σ (eFld ag off n (ev gl env x))
  | .idx es x i => ret σ (eIdx es (ev gl env x) (ev gl env i))
  | .idxa len es x i => ret σ (eIdxa len es (ev gl env x) (ev gl env i))
  | .idxv ag len es x i => ret σ (eIdxv ag len es (ev gl env x) (ev gl env i))
  | .idxs x i => ret σ (eIdxs (ev gl env x) (ev gl env i))
  | .lens x => ret σ (eLens (ev gl env x))
  | .lenl x => ret σ (eLenl (ev gl env x))
  | .mm mx x y => ret σ (eMm mx (ev gl env x) (ev gl env y))
  | .app ty es by' x y => eApp σ ty es by' (ev gl env x) (ev gl env y)
  | .extr i x => ret σ (eExtr i (ev gl env x))
  | .mkif t x => some (.ifc t (ev gl env x), σ)
  | .mkmap => some (.map σ.length, σ ++ [.map true [] 0])
  | .mset kt m k v => stU (eMset σ kt (ev gl env m) (ev gl env k) (ev gl env v))
  | .mget kt ok z m k => ret σ (eMget σ kt ok z (ev gl env m) (ev gl env k))
  | .mdel kt m k => stU (eMdel σ kt (ev gl env m) (ev gl env k))
  | .mlen m => ret σ (eMlen σ (ev gl env m))
  | .ment kt z m k => eMent σ kt z (ev gl env m) (ev gl env k)
  | .mest m s v => stU (eMest σ (ev gl env m) (ev gl env s) (ev gl env v))
  | _ => none

def cOpd : Operand → Option Opd
  | .tmp t => some (.t t)
  | .const v => (constAV v).map .c
  | .global g => some (.g g)
  | .func f => some (.c (.fn (.func f) [] []))

def cOpds : List Operand → Option (List Opd)
  | [] => some []
  | x :: r => match cOpd x, cOpds r with | some y, some ys => some (y :: ys) | _, _ => none

def cOpdO : Option Operand → Option (Option Opd)
  | none => some none
  | some x => (cOpd x).map some

def cParts (P : Program) (T : TypeId) : List (Nat × Operand) → Option (List (Nat × Nat × Opd))
  | [] => some []
  | (j, x) :: r => match placeOf P T j, cOpd x, cParts P T r with
    | some (off, n), some y, some ys => some ((off, n, y) :: ys)
    | _, _, _ => none

def cPartsS : List (Nat × Operand) → Option (List (Nat × Opd))
  | [] => some []
  | (j, x) :: r => match cOpd x, cPartsS r with
    | some y, some ys => some ((j, y) :: ys)
    | _, _ => none

def zeroEl (ag : Bool) (z : List AV) : Option AV :=
  match ag, z with
  | true, z => some (.agg z)
  | false, [c] => if c.flat = true then some c else none
  | false, _ => none

def isEq : BinOp → Option Bool
  | .eql => some false
  | .neq => some true
  | _ => none

/-- a comparison with nil -/
def nkC : Operand → Option NK
  | .const (.pointer none) => some .ptr
  | .const (.slice none 0 0) => some .sl
  | .const (.map none) => some .map
  | .const .nilFunc => some .fn
  | .const .nilIface => some .ifc
  | _ => none

def nkT (P : Program) (T : TypeId) : Option NK :=
  match P.underlying T with
  | some (.pointer _) => some .ptr
  | some (.slice _) => some .sl
  | some (.map _ _) => some .map
  | some (.func _ _ _) => some .fn
  | some (.interface _) => some .ifc
  | _ => none

def cBin (P : Program) (op : BinOp) (T : TypeId) (x y : Operand) : Option LO :=
  match cOpd x with
  | some a => match nkC y with
    | some k => if nkT P T = some k then (isEq op).map fun n => .eqnil k n a else none
    | none => match cOpd y with
      | some b => match P.underlying T with
        | some (.int _) => some (.ibin op a b)
        | some .string => some (.sbin op a b)
        | some .bool => (isEq op).map fun n => .eqb n a b
        | some (.pointer e) => match szOf P e with
          | some (_ + 1) => (isEq op).map fun n => .eqp n a b
          | _ => none
        | some (.struct _) => match eqSh P T with
          | some sh => (isEq op).map fun n => .eqs n sh a b
          | none => none
        | some (.array _ _) => match eqSh P T with
          | some sh => (isEq op).map fun n => .eqs n sh a b
          | none => none
        | _ => none
      | none => none
  | none => none

def cCall (P : Program) (c : Call) : Option LO :=
  match c.callee with
  | .value f => match cOpd f, cOpds c.args.toList with
    | some g, some xs => some (.call g xs)
    | _, _ => none
  | .builtin .len => match c.args.toList, c.argTypes.toList with
    | [x], [T] => match cOpd x, P.underlying T with
      | some a, some .string => some (.lens a)
      | some a, some (.slice _) => some (.lenl a)
      | some a, some (.map _ _) => some (.mlen a)
      | _, _ => none
    | _, _ => none
  | .builtin .delete => match c.args.toList, c.argTypes.toList with
    | [x, y], T :: _ => match cOpd x, cOpd y, P.underlying T with
      | some m, some k, some (.map key _) => (ktOf P key).map fun kt => .mdel kt m k
      | _, _, _ => none
    | _, _ => none
  | .builtin .append => match c.args.toList, c.argTypes.toList with
    | [x, y], [T, T2] => match cOpd x, cOpd y, P.underlying T with
      | some a, some b, some (.slice e) => match szOf P e, byOf P e, zeroOf P e with
        | some es, some by', some z => if appTy P T2 = true ∧ z.length = es then some (.app e es by' a b) else none
        | _, _, _ => none
      | _, _, _ => none
    | _, _ => none
  | .builtin .min => match c.args.toList with
    | [x, y] => match cOpd x, cOpd y with
      | some a, some b => some (.mm false a b)
      | _, _ => none
    | _ => none
  | .builtin .max => match c.args.toList with
    | [x, y] => match cOpd x, cOpd y with
      | some a, some b => some (.mm true a b)
      | _, _ => none
    | _ => none
  | _ => none

/-- a map's type -/
def mapTy (P : Program) (T : TypeId) : Option (KT × AV) :=
  match P.underlying T with
  | some (.map key elem) => match ktOf P key, zeroVOf P elem with
    | some kt, some z => some (kt, z)
    | _, _ => none
  | _ => none

theorem mapTy_spec {P : Program} {T : TypeId} {kt : KT} {z : AV} (h : mapTy P T = some (kt, z)) : ∃ key elem, P.underlying T = some (.map key elem) ∧ ktOf P key = some kt ∧ zeroVOf P elem = some z := by
  unfold mapTy at h
  split at h
  · rename_i key elem hT
    split at h
    · rename_i a b h1 h2; cases h; exact ⟨key, elem, hT, h1, h2⟩
    · cases h
  · cases h

def cOp (P : Program) : Op → Option LO
  | .move x => (cOpd x).map .mv
  | .assign x => (cOpd x).map .mv
  | .pick c a b => match cOpd c, cOpd a, cOpd b with
    | some c, some a, some b => some (.pick c a b)
    | _, _, _ => none
  | .alloc T => (zeroOf P T).map (.alloc T)
  | .box T x => (cOpd x).map (.box T)
  | .build T parts => match zeroOf P T, cParts P T parts.toList with
    | some z, some ps => if placesOk P T = true then some (.build z ps) else none
    | _, _ => none
  | .buildSlice T n parts => match P.underlying T with
    | some (.slice e) => match szOf P e, agOf P e, zeroOf P e, cPartsS parts.toList with
      | some es, some ag, some z, some ps => match zeroEl ag z with
        | some ze => if z.length = es ∧ n * es ≤ 16777216 then some (.bsl es ze n ps) else none
        | none => none
      | _, _, _, _ => none
    | _ => none
  | .load T a => match agOf P T, szOf P T, cOpd a with
    | some ag, some n, some x => some (.load ag n x)
    | _, _, _ => none
  | .store T a x => match szOf P T, cOpd a, cOpd x with
    | some n, some a, some x => some (.store n a x)
    | _, _, _ => none
  | .nilCheck x => (cOpd x).map .nilck
  | .binOp op T x y _ => cBin P op T x y
  | .unOp .not _ x => (cOpd x).map .not
  | .unOp .neg _ x => (cOpd x).map .neg
  | .convert s d x => match P.underlying s, P.underlying d, cOpd x with
    | some _, some (.int k), some a => some (.conv k a)
    | some _, some .string, some a => some (.cstr a)
    | _, _, _ => none
  | .makeInterface T x => if isIface P T = false then (cOpd x).map (.mkif T) else none
  | .makeFunc f fs cs => match cOpds fs.toList, cOpds cs.toList with
    | some fs, some cs => some (.mkfn f fs cs)
    | _, _ => none
  | .slice T x lo hi mx => match P.underlying T, cOpd x, cOpdO lo, cOpdO hi, cOpdO mx with
    | some .string, some a, some lo, some hi, some none => some (.sls a lo hi)
    | some (.slice e), some a, some lo, some hi, some mx => (szOf P e).map fun es => .sll es a lo hi mx
    | some (.array n e), some a, some lo, some hi, some none => (szOf P e).map fun es => .sla n es a lo hi
    | _, _, _, _, _ => none
  | .fieldAddr T x j => match fldOf P T j, cOpd x with
    | some (off, n, _), some a => if n ≠ 0 then some (.foff off a) else none
    | _, _ => none
  | .field T x j => match fldOf P T j, cOpd x with
    | some (off, n, ag), some a => some (.fld ag off n a)
    | _, _ => none
  | .indexAddr T x i => match P.underlying T, cOpd x, cOpd i with
    | some (.slice e), some a, some b => (szOf P e).map fun es => .idx es a b
    | some (.array n e), some a, some b => (szOf P e).map fun es => .idxa n es a b
    | _, _, _ => none
  | .index T x i => match P.underlying T, cOpd x, cOpd i with
    | some .string, some a, some b => some (.idxs a b)
    | some (.array n e), some a, some b => match szOf P e, agOf P e with
      | some es, some ag => some (.idxv ag n es a b)
      | _, _ => none
    | _, _, _ => none
  | .extract x i => (cOpd x).map (.extr i)
  | .call c => cCall P c
  | .makeMap _ none => some .mkmap
  | .lookup T x i ok => match mapTy P T, cOpd x, cOpd i with
    | some (kt, z), some m, some k => some (.mget kt ok z m k)
    | _, _, _ => none
  | .mapUpdate T m k v => match mapTy P T, cOpd m, cOpd k, cOpd v with
    | some (kt, _), some m, some k, some v => some (.mset kt m k v)
    | _, _, _, _ => none
  | .insert T m k v => match mapTy P T, cOpd m, cOpd k, cOpd v with
    | some (kt, _), some m, some k, some v => some (.mset kt m k v)
    | _, _, _, _ => none
  | .mapEntry T m k => match mapTy P T, cOpd m, cOpd k with
    | some (kt, z), some m, some k => some (.ment kt z m k)
    | _, _, _ => none
  | .entryStore _ m s v => match cOpd m, cOpd s, cOpd v with
    | some m, some s, some v => some (.mest m s v)
    | _, _, _ => none
  | _ => none

/-- the marks of loops over functions -/
def MarksOK (G : Ghost) (Fx : Nat → Prop) (ds : List Deferred) : Prop :=
  ∃ Ds : List Nat, ds = Ds.map (fun D => { target := .collected D, args := #[] }) ∧ Ds.Nodup ∧ ∀ D ∈ Ds, G.fx D ∧ ¬ Fx D

theorem MarksOK.mono {G G' : Ghost} (h : ∀ D, G.fx D → G'.fx D) {Fx : Nat → Prop} {ds : List Deferred} (hm : MarksOK G Fx ds) : MarksOK G' Fx ds :=
  let ⟨Ds, h1, h2, h3⟩ := hm; ⟨Ds, h1, h2, fun D hD => ⟨h D (h3 D hD).1, (h3 D hD).2⟩⟩

structure EnvOK (G : Ghost) (Fx : Nat → Prop) (N : Nat) (env : Env) (a : Act) : Prop where
  size : N ≤ a.tmps.size
  rep : ∀ t, Rep G (env t) (a.tmps.getD t undef)
  defers : MarksOK G Fx a.defers

theorem EnvOK.mono {G G' : Ghost} (hx : Ext G G') {Fx : Nat → Prop} {N : Nat} {env : Env} {a : Act} (h : EnvOK G Fx N env a) : EnvOK G' Fx N env a := ⟨h.size, fun t => (h.rep t).mono hx, h.defers.mono hx.fx⟩

section
variable {K : Cfg} {G : Ghost} {σ : Store} {w : World} {N : Nat} {env : Env} {a : Act} {Fx : Nat → Prop}

theorem EnvOK.put (h : EnvOK G Fx N env a) {d : Nat} (hd : d < N) {v : AV} {val : Value} (hr : Rep G v val) : EnvOK G Fx N (upd env d v) (a.put (some d) val) := by
  refine ⟨by simp [Act.put, h.size], fun t => ?_, h.defers⟩
  simp only [Act.put]
  by_cases e : t = d
  · subst e
    have : t < a.tmps.size := Nat.lt_of_lt_of_le hd h.size
    rw [upd_same]
    simp [Array.getD, this]; exact hr
  · rw [upd_ne _ _ e]
    have h1 := h.rep t
    have : (a.tmps.setIfInBounds d val).getD t undef = a.tmps.getD t undef := by
      rw [Array.getD_eq_getD_getElem?, Array.getD_eq_getD_getElem?, Array.getElem?_setIfInBounds, if_neg (fun h => e h.symm)]
    rw [this]; exact h1

theorem opd_ok (hI : Inv K G σ w) (hE : EnvOK G Fx N env a) {x : Operand} {y : Opd} (h : cOpd x = some y) : Rep G (ev K.gl env y) (a.eval x) := by
  cases x with
  | tmp t => cases h; exact hE.rep t
  | const v =>
    simp only [cOpd, Option.map_eq_some_iff] at h
    obtain ⟨c, hc, rfl⟩ := h
    exact constAV_rep G hc
  | global g => cases h; exact hI.gl g
  | func f => cases h; exact ⟨#[], #[], rfl, rfl, rfl⟩

theorem opds_ok (hI : Inv K G σ w) (hE : EnvOK G Fx N env a) : ∀ {xs : List Operand} {ys : List Opd}, cOpds xs = some ys → RepL G (ys.map (ev K.gl env)) (xs.map a.eval)
  | [], ys, h => by cases h; rfl
  | x :: xs, ys, h => by
    simp only [cOpds] at h
    split at h
    · rename_i y ys' h1 h2
      cases h
      exact ⟨_, _, rfl, opd_ok hI hE h1, opds_ok hI hE h2⟩
    · cases h

theorem opdO_ok (hI : Inv K G σ w) (hE : EnvOK G Fx N env a) {x : Option Operand} {y : Option Opd} (h : cOpdO x = some y) : RepO G (evO K.gl env y) (x.map a.eval) := by
  cases x with
  | none => cases h; rfl
  | some x =>
    simp only [cOpdO, Option.map_eq_some_iff] at h
    obtain ⟨c, hc, rfl⟩ := h
    exact ⟨_, rfl, opd_ok hI hE hc⟩

/-- what an operation has done -/
def Did (K : Cfg) (G : Ghost) (w : World) (s : Sem Next) (v : AV) (σ' : Store) : Prop :=
  ∃ n val w' G', s.run K.P w = .ok n w' ∧ (n = .value val ∨ (n = .skip ∧ val = undef)) ∧ Ext G G' ∧ Rep G' v val ∧ Inv K G' σ' w'

theorem did_of {s : Sem Value} {v : AV} {σ' : Store} (h : SemOK K G w s v σ') : Did K G w (do pure (Next.value (← s))) v σ' := by
  obtain ⟨val, w', G', h1, h2, h3, h4⟩ := h
  exact ⟨.value val, val, w', G', by simp [h1], .inl rfl, h2, h3, h4⟩

theorem ret_some {o : Option AV} {v : AV} {σ' : Store} (h : ret σ o = some (v, σ')) : o = some v ∧ σ' = σ := by
  cases o with
  | none => cases h
  | some c => simp only [ret, Option.some.injEq, Prod.mk.injEq] at h; exact ⟨by rw [h.1], h.2.symm⟩

theorem stU_some {o : Option Store} {v : AV} {σ' : Store} (h : stU o = some (v, σ')) : o = some σ' ∧ v = .tup [] := by
  cases o with
  | none => cases h
  | some c => simp only [stU, Option.some.injEq, Prod.mk.injEq] at h; exact ⟨by rw [h.2], h.1.symm⟩

theorem did_unit {s : Sem Unit} {σ' : Store} (h : SemOKU K G w s σ') : Did K G w (do s; pure Next.skip) (.tup []) σ' := by
  obtain ⟨w', G', k1, k2, k3⟩ := h
  exact ⟨.skip, undef, w', G', by simp [k1], .inr ⟨rfl, rfl⟩, k2, ⟨#[], rfl, rfl⟩, k3⟩

theorem nilFor_of {T : TypeId} {k : NK} {y : Operand} {x : AV} (hy : nkC y = some k) (hT : nkT K.P T = some k) (hx : nkOk k x = true) :
    ∃ n, y = .const n ∧ nilFor K.P T x n := by
  unfold nkC at hy
  unfold nkT at hT
  unfold nilFor
  split at hy <;> first | (cases hy; done) | (cases hy; split at hT <;> first | (cases hT; done) | (rename_i hu; rw [hu]; cases x <;> first | (cases hx; done) | exact ⟨_, rfl, rfl⟩))

theorem isEq_spec {op : BinOp} {n : Bool} (h : isEq op = some n) : op = if n then .neq else .eql := by
  cases op <;> first | (cases h; rfl) | cases h

theorem cparts_ok (hI : Inv K G σ w) (hE : EnvOK G Fx N env a) {T : TypeId} : ∀ {ps : List (Nat × Operand)} {qs : List (Nat × Nat × Opd)}, cParts K.P T ps = some qs →
    qs.length = ps.length ∧ ∀ (j : Nat) p q, (qs.map fun p => (p.1, p.2.1, ev K.gl env p.2.2))[j]? = some p → (ps.map fun (i, x) => (i, a.eval x))[j]? = some q → placeOf K.P T q.1 = some (p.1, p.2.1) ∧ Rep G p.2.2 q.2
  | [], qs, h => by cases h; exact ⟨rfl, fun j p q hp => by simp at hp⟩
  | (i, x) :: r, qs, h => by
    simp only [cParts] at h
    split at h
    · rename_i off n y ys h1 h2 h3
      cases h
      obtain ⟨k1, k2⟩ := cparts_ok hI hE h3
      refine ⟨by simp [k1], fun j p q hp hq => ?_⟩
      cases j with
      | zero =>
        simp only [List.map_cons, List.getElem?_cons_zero, Option.some.injEq] at hp hq
        subst hp; subst hq
        exact ⟨h1, opd_ok hI hE h2⟩
      | succ j => exact k2 j p q (by simpa using hp) (by simpa using hq)
    · cases h

theorem cpartsS_ok (hI : Inv K G σ w) (hE : EnvOK G Fx N env a) : ∀ {ps : List (Nat × Operand)} {qs : List (Nat × Opd)}, cPartsS ps = some qs →
    qs.length = ps.length ∧ ∀ (j : Nat) p q, (qs.map fun p => (p.1, ev K.gl env p.2))[j]? = some p → (ps.map fun (i, x) => (i, a.eval x))[j]? = some q → p.1 = q.1 ∧ Rep G p.2 q.2
  | [], qs, h => by cases h; exact ⟨rfl, fun j p q hp => by simp at hp⟩
  | (i, x) :: r, qs, h => by
    simp only [cPartsS] at h
    split at h
    · rename_i y ys h2 h3
      cases h
      obtain ⟨k1, k2⟩ := cpartsS_ok hI hE h3
      refine ⟨by simp [k1], fun j p q hp hq => ?_⟩
      cases j with
      | zero =>
        simp only [List.map_cons, List.getElem?_cons_zero, Option.some.injEq] at hp hq
        subst hp; subst hq
        exact ⟨rfl, opd_ok hI hE h2⟩
      | succ j => exact k2 j p q (by simpa using hp) (by simpa using hq)
    · cases h

theorem zeroEl_spec {ag : Bool} {z : List AV} {ze : AV} (h : zeroEl ag z = some ze) : ze.cells = z := by
  unfold zeroEl at h
  split at h
  · cases h; rfl
  · rename_i c
    split at h
    · rename_i hf
      cases h
      cases ze <;> first | rfl | (simp [AV.flat] at hf; done)
    · cases h
  · cases h

theorem did_val {s : Sem Next} {x : Value} {v : AV} (hI : Inv K G σ w) (hs : s.run K.P w = .ok (.value x) w) (hr : Rep G v x) : Did K G w s v σ :=
  ⟨.value x, x, w, G, hs, .inl rfl, Ext.refl G, hr, hI⟩

theorem bin_ok (hI : Inv K G σ w) (hE : EnvOK G Fx N env a) {op : BinOp} {T : TypeId} {x y : Operand} {lo : LO} {v : AV} {σ' : Store} (hc : cBin K.P op T x y = some lo) (he : eLO K.gl env σ lo = some (v, σ')) :
    Did K G w (do pure (Next.value (← (do eqGuard op T x y (a.eval x) (a.eval y); binOp op T (a.eval x) (a.eval y))))) v σ' := by
  simp only [cBin] at hc
  split at hc <;> first | (cases hc; done) | skip
  rename_i x' hx
  split at hc
  · rename_i k hk
    split at hc <;> first | (cases hc; done) | skip
    rename_i hT
    simp only [Option.map_eq_some_iff] at hc
    obtain ⟨n, hn, rfl⟩ := hc
    simp only [eLO] at he
    split at he <;> first | (cases he; done) | skip
    rename_i hok
    obtain ⟨e1, rfl⟩ := ret_some he
    obtain ⟨nv, rfl, hnil⟩ := nilFor_of hk hT hok
    cases isEq_spec hn
    exact did_of (eqnil_ok hI hnil (opd_ok hI hE hx) e1)
  · split at hc <;> first | (cases hc; done) | skip
    rename_i y' hy
    split at hc
    · cases hc; obtain ⟨e1, rfl⟩ := ret_some he
      exact did_of (ibin_ok hI (opd_ok hI hE hx) (opd_ok hI hE hy) e1)
    · cases hc; obtain ⟨e1, rfl⟩ := ret_some he
      exact did_of (sbin_ok hI (opd_ok hI hE hx) (opd_ok hI hE hy) e1)
    · rename_i hT
      simp only [Option.map_eq_some_iff] at hc
      obtain ⟨n, hn, rfl⟩ := hc
      obtain ⟨e1, rfl⟩ := ret_some he
      cases isEq_spec hn
      exact did_of (eqb_ok hI hT (opd_ok hI hE hx) (opd_ok hI hE hy) e1)
    · rename_i e hT
      split at hc <;> first | (cases hc; done) | skip
      rename_i m hm
      simp only [Option.map_eq_some_iff] at hc
      obtain ⟨n, hn, rfl⟩ := hc
      obtain ⟨e1, rfl⟩ := ret_some he
      cases isEq_spec hn
      exact did_of (eqp_ok hI hT hm (by omega) (opd_ok hI hE hx) (opd_ok hI hE hy) e1)
    · split at hc <;> first | (cases hc; done) | skip
      rename_i sh hs
      simp only [Option.map_eq_some_iff] at hc
      obtain ⟨n, hn, rfl⟩ := hc
      obtain ⟨e1, rfl⟩ := ret_some he
      cases isEq_spec hn
      exact did_of (eqs_ok hI hs (opd_ok hI hE hx) (opd_ok hI hE hy) e1)
    · split at hc <;> first | (cases hc; done) | skip
      rename_i sh hs
      simp only [Option.map_eq_some_iff] at hc
      obtain ⟨n, hn, rfl⟩ := hc
      obtain ⟨e1, rfl⟩ := ret_some he
      cases isEq_spec hn
      exact did_of (eqs_ok hI hs (opd_ok hI hE hx) (opd_ok hI hE hy) e1)
    · cases hc

theorem arr2 {α : Type} {xs : Array α} {x y : α} (h : xs.toList = [x, y]) : xs = #[x, y] := by
  apply Array.toList_inj.1; simpa using h
theorem arr1 {α : Type} {xs : Array α} {x : α} (h : xs.toList = [x]) : xs = #[x] := by
  apply Array.toList_inj.1; simpa using h

theorem call_ok (hI : Inv K G σ w) (hE : EnvOK G Fx N env a) {o : Oper} {c : Call} {lo : LO} {v : AV} {σ' : Store} (hc : cCall K.P c = some lo) (he : eLO K.gl env σ lo = some (v, σ')) :
    Did K G w (do let d ← resolve a.eval c o.type; invoke d.target d.args) v σ' := by
  obtain ⟨callee, args, argTypes⟩ := c
  cases callee with
  | value f =>
    simp only [cCall] at hc
    split at hc <;> first | (cases hc; done) | skip
    cases hc; cases he
  | invoke r n => simp [cCall] at hc
  | builtin b =>
    cases b <;> try (simp [cCall] at hc; done)
    case append =>
      simp only [cCall] at hc
      split at hc <;> first | (cases hc; done) | skip
      rename_i x y T T2 ha ht
      cases arr2 ha
      cases arr2 ht
      split at hc <;> first | (cases hc; done) | skip
      rename_i x' y' e h1 h2 h3
      split at hc <;> first | (cases hc; done) | skip
      rename_i es by' z h4 h5 h6
      split at hc <;> first | (cases hc; done) | skip
      rename_i h7
      cases hc
      have := app_ok hI h3 h7.1 h4 h5 h6 h7.2 (opd_ok hI hE h1) (opd_ok hI hE h2) he o.type
      have h := did_of this
      obtain ⟨n, val, w', G', k1, k2⟩ := h
      exact ⟨n, val, w', G', by simpa [resolve, invoke, builtin] using k1, k2⟩
    case len =>
      simp only [cCall] at hc
      split at hc <;> first | (cases hc; done) | skip
      rename_i x T ha ht
      cases arr1 ha
      cases arr1 ht
      split at hc
      · rename_i x' h1 h3
        cases hc
        obtain ⟨e1, rfl⟩ := ret_some he
        obtain ⟨n, val, w', G', k1, k2⟩ := did_of (lens_ok hI (ty := o.type) h3 (opd_ok hI hE h1) e1)
        exact ⟨n, val, w', G', by simpa [resolve, invoke, builtin] using k1, k2⟩
      · rename_i x' e h1 h3
        cases hc
        obtain ⟨e1, rfl⟩ := ret_some he
        obtain ⟨n, val, w', G', k1, k2⟩ := did_of (lenl_ok hI (ty := o.type) h3 (opd_ok hI hE h1) e1)
        exact ⟨n, val, w', G', by simpa [resolve, invoke, builtin] using k1, k2⟩
      · rename_i x' key elem h1 h3
        cases hc
        obtain ⟨e1, rfl⟩ := ret_some he
        obtain ⟨n, val, w', G', k1, k2⟩ := did_of (mlen_ok hI (ty := o.type) h3 (opd_ok hI hE h1) e1)
        exact ⟨n, val, w', G', by simpa [resolve, invoke, builtin] using k1, k2⟩
      · cases hc
    case delete =>
      simp only [cCall] at hc
      split at hc <;> first | (cases hc; done) | skip
      rename_i x y T ts ha ht
      cases arr2 ha
      split at hc <;> first | (cases hc; done) | skip
      rename_i m' k' key elem h1 h2 h3
      simp only [Option.map_eq_some_iff] at hc
      obtain ⟨kt, hkt, rfl⟩ := hc
      obtain ⟨e1, rfl⟩ := stU_some he
      have ht0 : argTypes[0]? = some T := by rw [← Array.getElem?_toList, ht]; rfl
      obtain ⟨n, val, w', G', k1, k2⟩ := did_of (mdel_ok hI (ty := o.type) ht0 h3 hkt (opd_ok hI hE h1) (opd_ok hI hE h2) e1)
      exact ⟨n, val, w', G', by simpa [resolve, invoke, builtin] using k1, k2⟩
    case max =>
      simp only [cCall] at hc
      split at hc <;> first | (cases hc; done) | skip
      rename_i x y ha
      cases arr2 ha
      split at hc <;> first | (cases hc; done) | skip
      rename_i x' y' h1 h2
      cases hc
      obtain ⟨e1, rfl⟩ := ret_some he
      obtain ⟨n, val, w', G', k1, k2⟩ := did_of (mm_ok hI (mx := true) (ts := argTypes) (t := o.type) (opd_ok hI hE h1) (opd_ok hI hE h2) e1)
      exact ⟨n, val, w', G', by simpa [resolve, invoke, builtin] using k1, k2⟩
    case min =>
      simp only [cCall] at hc
      split at hc <;> first | (cases hc; done) | skip
      rename_i x y ha
      cases arr2 ha
      split at hc <;> first | (cases hc; done) | skip
      rename_i x' y' h1 h2
      cases hc
      obtain ⟨e1, rfl⟩ := ret_some he
      obtain ⟨n, val, w', G', k1, k2⟩ := did_of (mm_ok hI (mx := false) (ts := argTypes) (t := o.type) (opd_ok hI hE h1) (opd_ok hI hE h2) e1)
      exact ⟨n, val, w', G', by simpa [resolve, invoke, builtin] using k1, k2⟩

set_option maxHeartbeats 1000000 in
theorem cop_ok (hI : Inv K G σ w) (hE : EnvOK G Fx N env a) {o : Oper} {lo : LO} {v : AV} {σ' : Store} (hc : cOp K.P o.op = some lo) (he : eLO K.gl env σ lo = some (v, σ')) :
    Did K G w (execOp a.eval o) v σ' := by
  obtain ⟨dst, op, ty, pos, after, guard⟩ := o
  simp only at hc
  cases op <;> try (simp [cOp] at hc; done)
  case move x =>
    simp only [cOp, Option.map_eq_some_iff] at hc
    obtain ⟨y, hy, rfl⟩ := hc
    cases he
    exact did_val hI (by simp [execOp]) (opd_ok hI hE hy)
  case assign x =>
    simp only [cOp, Option.map_eq_some_iff] at hc
    obtain ⟨y, hy, rfl⟩ := hc
    cases he
    exact did_val hI (by simp [execOp]) (opd_ok hI hE hy)
  case pick c x y =>
    simp only [cOp] at hc
    split at hc <;> first | (cases hc; done) | skip
    rename_i c' x' y' h1 h2 h3
    cases hc
    obtain ⟨e1, rfl⟩ := ret_some he
    obtain ⟨val, k1, k2⟩ := pick_ok (opd_ok hI hE h1) (opd_ok hI hE h2) (opd_ok hI hE h3) e1
    have k1 := k1 w
    simp only [Sem.run_bind] at k1
    refine did_val hI ?_ k2
    simp only [execOp, Sem.run_bind]
    cases hb : (asBool (a.eval c)).run K.P w with
    | ok b w' => rw [hb] at k1; simp only [Result.andThen_ok, Sem.run_pure] at k1 ⊢; cases k1; rfl
    | halt x w' => rw [hb] at k1; cases k1
  case alloc T =>
    simp only [cOp, Option.map_eq_some_iff] at hc
    obtain ⟨z, hz, rfl⟩ := hc
    simp only [eLO, Option.some.injEq] at he
    have := alloc_ok hI hz
    rw [he] at this
    exact did_of this
  case box T x =>
    simp only [cOp, Option.map_eq_some_iff] at hc
    obtain ⟨y, hy, rfl⟩ := hc
    simp only [eLO] at he
    split at he
    · rename_i hf
      simp only [Option.some.injEq] at he
      have := box_ok hI (T := T) (opd_ok hI hE hy) hf
      rw [he] at this
      exact did_of this
    · cases he
  case build T parts =>
    simp only [cOp] at hc
    split at hc <;> first | (cases hc; done) | skip
    rename_i z ps hz hps
    split at hc <;> first | (cases hc; done) | skip
    rename_i hp
    cases hc
    obtain ⟨e1, rfl⟩ := ret_some he
    obtain ⟨k1, k2⟩ := cparts_ok hI hE hps
    refine did_of (build_ok (vparts := parts.map fun (i, x) => (i, a.eval x)) hI hz hp (by simpa using k1) (fun j p q hpj hqj => k2 j p q hpj (by simpa using hqj)) e1)
  case buildSlice T n parts =>
    simp only [cOp] at hc
    split at hc <;> first | (cases hc; done) | skip
    rename_i e hT
    split at hc <;> first | (cases hc; done) | skip
    rename_i es ag z ps h1 h2 h3 h4
    split at hc <;> first | (cases hc; done) | skip
    rename_i ze hze
    split at hc <;> first | (cases hc; done) | skip
    rename_i hb
    cases hc
    obtain ⟨e1, rfl⟩ := ret_some he
    obtain ⟨k1, k2⟩ := cpartsS_ok hI hE h4
    have hcz := zeroEl_spec hze
    exact did_of (bsl_ok hI hT h1 (by rw [hcz]; exact h3) (by rw [hcz]; exact hb.1) hb.2 (vparts := parts.map fun (i, x) => (i, a.eval x)) (by simpa using k1) (fun j p q hpj hqj => k2 j p q hpj (by simpa using hqj)) e1)
  case load T x =>
    simp only [cOp] at hc
    split at hc <;> first | (cases hc; done) | skip
    rename_i ag n x' h1 h2 h3
    cases hc
    obtain ⟨e1, rfl⟩ := ret_some he
    exact did_of (load_ok hI (agOf_run h1) (fun _ => szOf_run h2) (opd_ok hI hE h3) e1)
  case store T x y =>
    simp only [cOp] at hc
    split at hc <;> first | (cases hc; done) | skip
    rename_i n x' y' h1 h2 h3
    cases hc
    simp only [eLO] at he
    split at he <;> first | (cases he; done) | skip
    rename_i σ2 hs
    cases he
    obtain ⟨w', G', k1, k2, k3⟩ := store_ok hI (szOf_run h1) (opd_ok hI hE h2) (opd_ok hI hE h3) hs
    exact ⟨.skip, undef, w', G', by simp [execOp, k1], .inr ⟨rfl, rfl⟩, k2, ⟨#[], rfl, rfl⟩, k3⟩
  case nilCheck x =>
    simp only [cOp, Option.map_eq_some_iff] at hc
    obtain ⟨y, hy, rfl⟩ := hc
    obtain ⟨e1, rfl⟩ := ret_some he
    have hr := opd_ok hI hE hy
    revert e1 hr
    generalize ev K.gl env y = c
    intro e1 hr
    cases c <;> first | (simp [eNilck] at e1; done) | skip
    · cases e1; obtain ⟨b, hb, hv⟩ := hr; exact did_val hI (by simp [execOp, hv]) ⟨b, hb, rfl⟩
    · cases e1; obtain ⟨b, o, hv, hb⟩ := hr; exact did_val hI (by simp [execOp, hv]) ⟨b, o, rfl, hb⟩
    · cases e1; obtain ⟨u, hv, hb⟩ := hr; exact did_val hI (by simp [execOp, hv]) ⟨u, rfl, hb⟩
  case binOp op T x y T2 =>
    exact bin_ok hI hE (by simpa only [cOp] using hc) he
  case unOp op T x =>
    cases op <;> try (simp [cOp] at hc; done)
    · simp only [cOp, Option.map_eq_some_iff] at hc
      obtain ⟨y, hy, rfl⟩ := hc
      obtain ⟨e1, rfl⟩ := ret_some he
      exact did_of (neg_ok hI (opd_ok hI hE hy) e1)
    · simp only [cOp, Option.map_eq_some_iff] at hc
      obtain ⟨y, hy, rfl⟩ := hc
      obtain ⟨e1, rfl⟩ := ret_some he
      exact did_of (not_ok hI (opd_ok hI hE hy) e1)
  case convert S D x =>
    simp only [cOp] at hc
    split at hc
    · rename_i d k x' h1 h2 h3
      cases hc
      obtain ⟨e1, rfl⟩ := ret_some he
      exact did_of (conv_ok hI (by rw [h1]; rfl) h2 (opd_ok hI hE h3) e1)
    · rename_i d x' h1 h2 h3
      cases hc
      obtain ⟨e1, rfl⟩ := ret_some he
      exact did_of (cstr_ok hI (by rw [h1]; rfl) h2 (opd_ok hI hE h3) e1)
    · cases hc
  case makeInterface T x =>
    simp only [cOp] at hc
    split at hc <;> first | (cases hc; done) | skip
    rename_i hT
    simp only [Option.map_eq_some_iff] at hc
    obtain ⟨y, hy, rfl⟩ := hc
    cases he
    exact did_of (mkif_ok hI hT (opd_ok hI hE hy))
  case makeFunc f fs cs =>
    simp only [cOp] at hc
    split at hc <;> first | (cases hc; done) | skip
    rename_i fs' cs' h1 h2
    cases hc
    cases he
    refine did_of (SemOK.pure' hI (val := .func f (fs.map a.eval) (cs.map a.eval)) (by simp [Instr.makeFunc]) ⟨_, _, rfl, ?_, ?_⟩)
    · simpa using opds_ok hI hE h1
    · simpa using opds_ok hI hE h2
  case slice T x lo hi mx =>
    simp only [cOp] at hc
    split at hc
    · rename_i x' lo' hi' h1 h2 h3 h4 h5
      cases hc
      obtain ⟨e1, rfl⟩ := ret_some he
      have hmx : mx = none := by cases mx with | none => rfl | some m => simp [cOpdO] at h5
      subst hmx
      exact did_of (sls_ok hI h1 (opd_ok hI hE h2) (opdO_ok hI hE h3) (opdO_ok hI hE h4) e1)
    · rename_i e x' lo' hi' mx' h1 h2 h3 h4 h5
      simp only [Option.map_eq_some_iff] at hc
      obtain ⟨es, hes, rfl⟩ := hc
      obtain ⟨e1, rfl⟩ := ret_some he
      exact did_of (sll_ok hI h1 hes (opd_ok hI hE h2) (opdO_ok hI hE h3) (opdO_ok hI hE h4) (opdO_ok hI hE h5) e1)
    · rename_i n e x' lo' hi' h1 h2 h3 h4 h5
      simp only [Option.map_eq_some_iff] at hc
      obtain ⟨es, hes, rfl⟩ := hc
      obtain ⟨e1, rfl⟩ := ret_some he
      have hmx : mx = none := by cases mx with | none => rfl | some m => simp [cOpdO] at h5
      subst hmx
      exact did_of (sla_ok hI h1 hes (opd_ok hI hE h2) (opdO_ok hI hE h3) (opdO_ok hI hE h4) e1)
    · cases hc
  case fieldAddr T x j =>
    simp only [cOp] at hc
    split at hc <;> first | (cases hc; done) | skip
    rename_i off n ag x' h1 h2
    split at hc <;> first | (cases hc; done) | skip
    rename_i hn
    cases hc
    obtain ⟨e1, rfl⟩ := ret_some he
    exact did_of (foff_ok hI h1 hn (opd_ok hI hE h2) e1)
  case field T x j =>
    simp only [cOp] at hc
    split at hc <;> first | (cases hc; done) | skip
    rename_i off n ag x' h1 h2
    cases hc
    obtain ⟨e1, rfl⟩ := ret_some he
    exact did_of (fld_ok hI h1 (opd_ok hI hE h2) e1)
  case indexAddr T x i =>
    simp only [cOp] at hc
    split at hc
    · rename_i e x' i' h1 h2 h3
      simp only [Option.map_eq_some_iff] at hc
      obtain ⟨es, hes, rfl⟩ := hc
      obtain ⟨e1, rfl⟩ := ret_some he
      exact did_of (idx_ok hI h1 hes (opd_ok hI hE h2) (opd_ok hI hE h3) e1)
    · rename_i n e x' i' h1 h2 h3
      simp only [Option.map_eq_some_iff] at hc
      obtain ⟨es, hes, rfl⟩ := hc
      obtain ⟨e1, rfl⟩ := ret_some he
      exact did_of (idxa_ok hI h1 hes (opd_ok hI hE h2) (opd_ok hI hE h3) e1)
    · cases hc
  case index T x i =>
    simp only [cOp] at hc
    split at hc
    · rename_i x' i' h1 h2 h3
      cases hc
      obtain ⟨e1, rfl⟩ := ret_some he
      exact did_of (idxs_ok hI h1 (opd_ok hI hE h2) (opd_ok hI hE h3) e1)
    · rename_i n e x' i' h1 h2 h3
      split at hc <;> first | (cases hc; done) | skip
      rename_i es ag h4 h5
      cases hc
      obtain ⟨e1, rfl⟩ := ret_some he
      exact did_of (idxv_ok hI h1 h4 h5 (opd_ok hI hE h2) (opd_ok hI hE h3) e1)
    · cases hc
  case extract x i =>
    simp only [cOp, Option.map_eq_some_iff] at hc
    obtain ⟨y, hy, rfl⟩ := hc
    obtain ⟨e1, rfl⟩ := ret_some he
    exact did_of (extr_ok hI (opd_ok hI hE hy) e1)
  case call c => exact call_ok hI hE hc he
  case makeMap T r =>
    cases r with
    | some r => simp [cOp] at hc
    | none =>
      simp only [cOp, Option.some.injEq] at hc
      subst hc
      cases he
      exact did_of (mkmap_ok hI)
  case lookup T x i ok =>
    simp only [cOp] at hc
    split at hc <;> first | (cases hc; done) | skip
    rename_i kt z m k h1 h2 h3
    cases hc
    obtain ⟨key, elem, t1, t2, t3⟩ := mapTy_spec h1
    obtain ⟨e1, rfl⟩ := ret_some he
    exact did_of (mget_ok hI t1 t2 t3 (opd_ok hI hE h2) (opd_ok hI hE h3) e1)
  case mapUpdate T m k x =>
    simp only [cOp] at hc
    split at hc <;> first | (cases hc; done) | skip
    rename_i kt z m' k' x' h1 h2 h3 h4
    cases hc
    obtain ⟨key, elem, t1, t2, _⟩ := mapTy_spec h1
    obtain ⟨e1, rfl⟩ := stU_some he
    exact did_unit (mset_ok hI t1 t2 (opd_ok hI hE h2) (opd_ok hI hE h3) (opd_ok hI hE h4) e1)
  case insert T m k x =>
    simp only [cOp] at hc
    split at hc <;> first | (cases hc; done) | skip
    rename_i kt z m' k' x' h1 h2 h3 h4
    cases hc
    obtain ⟨key, elem, t1, t2, _⟩ := mapTy_spec h1
    obtain ⟨e1, rfl⟩ := stU_some he
    exact did_unit (mset_ok hI t1 t2 (opd_ok hI hE h2) (opd_ok hI hE h3) (opd_ok hI hE h4) e1)
  case mapEntry T m k =>
    simp only [cOp] at hc
    split at hc <;> first | (cases hc; done) | skip
    rename_i kt z m' k' h1 h2 h3
    cases hc
    obtain ⟨key, elem, t1, t2, t3⟩ := mapTy_spec h1
    exact did_of (ment_ok hI t1 t2 t3 (opd_ok hI hE h2) (opd_ok hI hE h3) he)
  case entryStore T m s x =>
    simp only [cOp] at hc
    split at hc <;> first | (cases hc; done) | skip
    rename_i m' s' x' h1 h2 h3
    cases hc
    obtain ⟨e1, rfl⟩ := stU_some he
    exact did_unit (mest_ok hI (opd_ok hI hE h1) (opd_ok hI hE h2) (opd_ok hI hE h3) e1)

end
end Go.Av
