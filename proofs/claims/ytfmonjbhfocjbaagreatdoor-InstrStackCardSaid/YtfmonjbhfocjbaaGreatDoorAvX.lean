/- Functions of the library that are met by a contract: what they come to, and that the contract bears it out. -/
import Derived.Test.YtfmonjbhfocjbaaGreatDoorAv18
import Derived.Lib.AtoiAll
import Derived.Lib.ItoaNum
import Derived.Lib.Bytealg
import Derived.Lib.Index
import Derived.Lib.IndexMore
import Derived.Lib.Join
import Derived.Lib.Split
import Derived.Lib.Strings
namespace Go.Av
open Go Go.RowKit

section
variable {K : Cfg} {G : Ghost} {σ : Store} {W : World} {f : FuncId} {vals : Array Value}

def Enters (P : Program) (f : FuncId) : Prop := ∀ args w, (callFunc f args).run P w = .ok (.enter f args) w

theorem enters_fn {P : Program} {f : FuncId} {fn : Func} (h : P.funcs[f]? = some fn) (h2 : (fn.name == "runtime.NumGoroutine") = false) (h3 : fn.body.isSome = true) : Enters P f := fun args w => by
  have h2' : ¬ fn.name = "runtime.NumGoroutine" := by simpa using h2
  obtain ⟨b, hb⟩ := Option.isSome_iff_exists.1 h3
  simp [callFunc, h, h2', hb]

theorem good_of (he : Enters K.P f) {v : AV} {σ' : Store} (hc : Calls K.P f vals W fun e w' => ∃ val, e = .returned val ∧ PostV K G v σ' val w') : CallGood K G W f vals v σ' := by
  unfold CallGood
  rw [he]
  exact fun n => callsIn_wide.2 hc

/-- a call that leaves all that was there as it was -/
theorem good_below (he : Enters K.P f) {val : Value} (hc : Calls K.P f vals W fun e w' => e = .returned val ∧ Below W.heap.size W w') (hI : Inv K G σ W) {v : AV} (hr : Rep G v val) : CallGood K G W f vals v σ :=
  good_of he (hc.mono fun _ _ ⟨h1, h2⟩ => ⟨val, h1, G, Ext.refl G, hr, hI.keep h2⟩)

theorem good_same (he : Enters K.P f) {val : Value} (hc : Calls K.P f vals W fun e w' => e = .returned val ∧ w' = W) (hI : Inv K G σ W) {v : AV} (hr : Rep G v val) : CallGood K G W f vals v σ :=
  good_below he (hc.mono fun _ _ ⟨h1, h2⟩ => ⟨h1, h2 ▸ Below.refl _ _⟩) hI hr

theorem vals1 {c : AV} (h : RepL G [c] vals.toList) : ∃ v, vals = #[v] ∧ Rep G c v := by
  obtain ⟨v, r, e, h1, h2⟩ := h
  rw [show r = [] from h2] at e
  exact ⟨v, arr1 e, h1⟩
theorem vals2 {c d : AV} (h : RepL G [c, d] vals.toList) : ∃ v u, vals = #[v, u] ∧ Rep G c v ∧ Rep G d u := by
  obtain ⟨v, r, e, h1, u, r', e', h2, h3⟩ := h
  rw [show r' = [] from h3] at e'
  subst e'
  exact ⟨v, u, arr2 e, h1, h2⟩
theorem vals3 {c d e : AV} (h : RepL G [c, d, e] vals.toList) : ∃ v u x, vals = #[v, u, x] ∧ Rep G c v ∧ Rep G d u ∧ Rep G e x := by
  obtain ⟨v, r, e1, h1, u, r', e2, h2, x, r2, e3, h3, h4⟩ := h
  rw [show r2 = [] from h4] at e3
  subst e3; subst e2
  refine ⟨v, u, x, ?_, h1, h2, h3⟩
  apply Array.toList_inj.1; simpa using e1

/-! ### numbers as text -/
def digs : Nat → Nat → List UInt8
  | 0, _ => []
  | n + 1, u => cond (Nat.blt u 10) [UInt8.ofNat (48 + u)] (digs n (u / 10) ++ [UInt8.ofNat (48 + u % 10)])

theorem digs_eq : ∀ (n u : Nat), u < 10 ^ (n + 1) → digs (n + 1) u = Lib.decDigits u
  | n, u, h => by
    rw [Lib.decDigits, digs]
    by_cases hu : u < 10
    · rw [blt_true hu, dif_pos hu]; rfl
    · rw [blt_false (by omega), dif_neg hu, cond_false]
      cases n with
      | zero => simp at h; omega
      | succ n => rw [digs_eq n (u / 10) (by rw [Nat.pow_succ] at h; omega)]

def itoaL (n : Int) : List UInt8 :=
  match n with
  | .ofNat n => digs 20 n
  | .negSucc n => 45 :: digs 20 (n + 1)

theorem itoaL_eq {n : Int} (h0 : -9223372036854775808 ≤ n) (h1 : n ≤ 9223372036854775807) : itoaL n = Lib.itoa n := by
  unfold itoaL Lib.itoa
  cases n with
  | ofNat n =>
    simp only [Int.ofNat_eq_natCast, Int.toNat_natCast]
    rw [if_neg (by omega)]
    simp only [Int.ofNat_eq_natCast] at h1
    exact digs_eq 19 n (by omega)
  | negSucc n =>
    simp only [Int.natAbs_negSucc]
    rw [if_pos (by omega)]
    rw [digs_eq 19 (n + 1) (by omega)]

def inI (n : Int) : Bool := decide (-9223372036854775808 ≤ n) && decide (n ≤ 9223372036854775807)

def xItoa : List AV → Store → Res
  | [.int .i64 n], σ => cond (inI n) (some (.str ⟨(itoaL n).toArray⟩, σ)) none
  | _, _ => none

theorem xItoa_good (he : Enters K.P f) (hc : ∀ n : Int, -9223372036854775808 ≤ n → n ≤ 9223372036854775807 → Calls K.P f #[.int .i64 n] W fun e w' => e = .returned (.string ⟨(Lib.itoa n).toArray⟩) ∧ Below W.heap.size W w')
    {args : List AV} {v : AV} {σ' : Store} (hx : xItoa args σ = some (v, σ')) (hI : Inv K G σ W) (hr : RepL G args vals.toList) : CallGood K G W f vals v σ' := by
  unfold xItoa at hx
  split at hx <;> first | (cases hx; done) | skip
  rename_i n
  cases hb : inI n with
  | false => rw [hb] at hx; cases hx
  | true =>
    rw [hb] at hx
    simp only [cond_true, Option.some.injEq, Prod.mk.injEq] at hx
    obtain ⟨rfl, rfl⟩ := hx
    simp only [inI, Bool.and_eq_true, decide_eq_true_eq] at hb
    obtain ⟨vn, rfl, h1⟩ := vals1 hr
    rw [show vn = _ from h1]
    exact good_below he (hc n hb.1 hb.2) hI (by rw [itoaL_eq hb.1 hb.2]; rfl)

/-- te: the type of the error -/
def xAtoi (te : TypeId) : List AV → Store → Res
  | [.str s], σ => cond (decide (s.size ≤ 281474976710656)) (match Lib.atoiAll s.data.toList with
    | .ok n => some (.tup [.int .i64 n, .nili], σ)
    | .range => some (.tup [.int .i64 (Lib.atoiSat s.data.toList), .ifc te .top], σ)
    | _ => some (.tup [.int .i64 0, .ifc te .top], σ)) none
  | _, _ => none

theorem xAtoi_good (he : Enters K.P f) {te : TypeId}
    (hok : ∀ (s : ByteArray) n, s.size ≤ 281474976710656 → Lib.atoiAll s.data.toList = .ok n → Calls K.P f #[.string s] W fun e w' => e = .returned (.tuple #[.int .i64 n, .nilIface]) ∧ Below W.heap.size W w')
    (hsyn : ∀ s : ByteArray, s.size ≤ 281474976710656 → (∀ n, Lib.atoiAll s.data.toList ≠ .ok n) → Lib.atoiAll s.data.toList ≠ .range → Calls K.P f #[.string s] W fun e w' => ∃ p, e = .returned (.tuple #[.int .i64 0, .iface te p]) ∧ Below W.heap.size W w')
    (hrng : ∀ s : ByteArray, s.size ≤ 281474976710656 → Lib.atoiAll s.data.toList = .range → Calls K.P f #[.string s] W fun e w' => ∃ p, e = .returned (.tuple #[.int .i64 (Lib.atoiSat s.data.toList), .iface te p]) ∧ Below W.heap.size W w')
    {args : List AV} {v : AV} {σ' : Store} (hx : xAtoi te args σ = some (v, σ')) (hI : Inv K G σ W) (hr : RepL G args vals.toList) : CallGood K G W f vals v σ' := by
  unfold xAtoi at hx
  split at hx <;> first | (cases hx; done) | skip
  rename_i s
  cases hb : decide (s.size ≤ 281474976710656) with
  | false => rw [hb] at hx; cases hx
  | true =>
    rw [hb] at hx
    simp only [cond_true] at hx
    have hb := of_decide_eq_true hb
    obtain ⟨vs, rfl, h1⟩ := vals1 hr
    rw [show vs = _ from h1]
    split at hx
    · rename_i n hn
      simp only [Option.some.injEq, Prod.mk.injEq] at hx
      obtain ⟨rfl, rfl⟩ := hx
      exact good_below he (hok s n hb hn) hI ⟨_, rfl, _, _, rfl, rfl, _, _, rfl, rfl, rfl⟩
    · rename_i hn
      simp only [Option.some.injEq, Prod.mk.injEq] at hx
      obtain ⟨rfl, rfl⟩ := hx
      refine good_of he ((hrng s hb hn).mono fun e w' ⟨p, h1, h2⟩ => ⟨_, h1, G, Ext.refl G, ?_, hI.keep h2⟩)
      exact ⟨_, rfl, _, _, rfl, rfl, _, _, rfl, ⟨p, rfl, trivial⟩, rfl⟩
    · rename_i hn1 hn2
      simp only [Option.some.injEq, Prod.mk.injEq] at hx
      obtain ⟨rfl, rfl⟩ := hx
      refine good_of he ((hsyn s hb (fun n h => hn1 n h) (fun h => hn2 h)).mono fun e w' ⟨p, h1, h2⟩ => ⟨_, h1, G, Ext.refl G, ?_, hI.keep h2⟩)
      exact ⟨_, rfl, _, _, rfl, rfl, _, _, rfl, ⟨p, rfl, trivial⟩, rfl⟩

/-! ### strings -/
def xIndexByte : List AV → Store → Res
  | [.str s, .int .u8 c], σ => some (.int .i64 (Lib.indexByte s.data.toList c.toNat.toUInt8), σ)
  | _, _ => none

theorem xIndexByte_good (he : Enters K.P f) (hc : ∀ (s : ByteArray) (c : Int), Calls K.P f #[.string s, .int .u8 c] W fun e w' => e = .returned (.int .i64 (Lib.indexByte s.data.toList c.toNat.toUInt8)) ∧ w' = W)
    {args : List AV} {v : AV} {σ' : Store} (hx : xIndexByte args σ = some (v, σ')) (hI : Inv K G σ W) (hr : RepL G args vals.toList) : CallGood K G W f vals v σ' := by
  unfold xIndexByte at hx
  split at hx <;> first | (cases hx; done) | skip
  simp only [Option.some.injEq, Prod.mk.injEq] at hx
  obtain ⟨rfl, rfl⟩ := hx
  obtain ⟨v1, v2, rfl, h1, h2⟩ := vals2 hr
  rw [show v1 = _ from h1, show v2 = _ from h2]
  exact good_same he (hc _ _) hI rfl

/-- strings.Index, strings.Contains at one byte -/
def xIndex1 : List AV → Store → Res
  | [.str s, .str ⟨⟨[c]⟩⟩], σ => some (.int .i64 (Lib.indexByte s.data.toList c), σ)
  | _, _ => none

theorem xIndex1_good (he : Enters K.P f) (hc : ∀ (s : ByteArray) (c : UInt8), Calls K.P f #[.string s, .string ⟨#[c]⟩] W fun e w' => e = .returned (.int .i64 (Lib.indexByte s.data.toList c)) ∧ w' = W)
    {args : List AV} {v : AV} {σ' : Store} (hx : xIndex1 args σ = some (v, σ')) (hI : Inv K G σ W) (hr : RepL G args vals.toList) : CallGood K G W f vals v σ' := by
  unfold xIndex1 at hx
  split at hx <;> first | (cases hx; done) | skip
  simp only [Option.some.injEq, Prod.mk.injEq] at hx
  obtain ⟨rfl, rfl⟩ := hx
  obtain ⟨v1, v2, rfl, h1, h2⟩ := vals2 hr
  rw [show v1 = _ from h1, show v2 = _ from h2]
  exact good_same he (hc _ _) hI rfl

def xContains1 : List AV → Store → Res
  | [.str s, .str ⟨⟨[c]⟩⟩], σ => some (.bool (decide (0 ≤ Lib.indexByte s.data.toList c)), σ)
  | _, _ => none

theorem xContains1_good (he : Enters K.P f) (hc : ∀ (s : ByteArray) (c : UInt8), Calls K.P f #[.string s, .string ⟨#[c]⟩] W fun e w' => e = .returned (.bool (decide (0 ≤ Lib.indexByte s.data.toList c))) ∧ w' = W)
    {args : List AV} {v : AV} {σ' : Store} (hx : xContains1 args σ = some (v, σ')) (hI : Inv K G σ W) (hr : RepL G args vals.toList) : CallGood K G W f vals v σ' := by
  unfold xContains1 at hx
  split at hx <;> first | (cases hx; done) | skip
  simp only [Option.some.injEq, Prod.mk.injEq] at hx
  obtain ⟨rfl, rfl⟩ := hx
  obtain ⟨v1, v2, rfl, h1, h2⟩ := vals2 hr
  rw [show v1 = _ from h1, show v2 = _ from h2]
  exact good_same he (hc _ _) hI rfl

def bs (l : List UInt8) : ByteArray := ⟨l.toArray⟩

def xCut : List AV → Store → Res
  | [.str s, .str sep], σ => cond (decide (s.size < 4294967281)) (some (.tup [.str (bs (Lib.cut s.data.toList sep.data.toList).1), .str (bs (Lib.cut s.data.toList sep.data.toList).2.1), .bool (Lib.cut s.data.toList sep.data.toList).2.2], σ)) none
  | _, _ => none

theorem xCut_good (he : Enters K.P f) (hc : ∀ (s sep : ByteArray), s.size < 4294967281 → Calls K.P f #[.string s, .string sep] W fun e w' => e = .returned (.tuple #[.string ⟨(Lib.cut s.data.toList sep.data.toList).1.toArray⟩, .string ⟨(Lib.cut s.data.toList sep.data.toList).2.1.toArray⟩, .bool (Lib.cut s.data.toList sep.data.toList).2.2]) ∧ Below W.heap.size W w')
    {args : List AV} {v : AV} {σ' : Store} (hx : xCut args σ = some (v, σ')) (hI : Inv K G σ W) (hr : RepL G args vals.toList) : CallGood K G W f vals v σ' := by
  unfold xCut at hx
  split at hx <;> first | (cases hx; done) | skip
  rename_i s sep
  cases hb : decide (s.size < 4294967281) with
  | false => rw [hb] at hx; cases hx
  | true =>
    rw [hb] at hx
    simp only [cond_true, Option.some.injEq, Prod.mk.injEq] at hx
    obtain ⟨rfl, rfl⟩ := hx
    obtain ⟨v1, v2, rfl, h1, h2⟩ := vals2 hr
    rw [show v1 = _ from h1, show v2 = _ from h2]
    exact good_below he (hc _ _ (of_decide_eq_true hb)) hI ⟨_, rfl, _, _, rfl, rfl, _, _, rfl, rfl, _, _, rfl, rfl, rfl⟩

def xCutSuffix : List AV → Store → Res
  | [.str s, .str p], σ => cond (decide (s.size ≤ 9223372036854775807)) (some (.tup [.str (bs (Lib.trimSuffix s.data.toList p.data.toList)), .bool (Lib.hasSuffix s.data.toList p.data.toList)], σ)) none
  | _, _ => none

theorem xCutSuffix_good (he : Enters K.P f) (hc : ∀ (s p : ByteArray), s.size ≤ 9223372036854775807 → Calls K.P f #[.string s, .string p] W fun e w' => e = .returned (.tuple #[.string ⟨(Lib.trimSuffix s.data.toList p.data.toList).toArray⟩, .bool (Lib.hasSuffix s.data.toList p.data.toList)]) ∧ w' = W)
    {args : List AV} {v : AV} {σ' : Store} (hx : xCutSuffix args σ = some (v, σ')) (hI : Inv K G σ W) (hr : RepL G args vals.toList) : CallGood K G W f vals v σ' := by
  unfold xCutSuffix at hx
  split at hx <;> first | (cases hx; done) | skip
  rename_i s sep
  cases hb : decide (s.size ≤ 9223372036854775807) with
  | false => rw [hb] at hx; cases hx
  | true =>
    rw [hb] at hx
    simp only [cond_true, Option.some.injEq, Prod.mk.injEq] at hx
    obtain ⟨rfl, rfl⟩ := hx
    obtain ⟨v1, v2, rfl, h1, h2⟩ := vals2 hr
    rw [show v1 = _ from h1, show v2 = _ from h2]
    exact good_same he (hc _ _ (of_decide_eq_true hb)) hI ⟨_, rfl, _, _, rfl, rfl, _, _, rfl, rfl, rfl⟩

def xCutPrefix : List AV → Store → Res
  | [.str s, .str p], σ => some (.tup [.str (bs (Lib.trimPrefix s.data.toList p.data.toList)), .bool (Lib.hasPrefix s.data.toList p.data.toList)], σ)
  | _, _ => none

theorem xCutPrefix_good (he : Enters K.P f) (hc : ∀ (s p : ByteArray), Calls K.P f #[.string s, .string p] W fun e w' => e = .returned (.tuple #[.string ⟨(Lib.trimPrefix s.data.toList p.data.toList).toArray⟩, .bool (Lib.hasPrefix s.data.toList p.data.toList)]) ∧ w' = W)
    {args : List AV} {v : AV} {σ' : Store} (hx : xCutPrefix args σ = some (v, σ')) (hI : Inv K G σ W) (hr : RepL G args vals.toList) : CallGood K G W f vals v σ' := by
  unfold xCutPrefix at hx
  split at hx <;> first | (cases hx; done) | skip
  simp only [Option.some.injEq, Prod.mk.injEq] at hx
  obtain ⟨rfl, rfl⟩ := hx
  obtain ⟨v1, v2, rfl, h1, h2⟩ := vals2 hr
  rw [show v1 = _ from h1, show v2 = _ from h2]
  exact good_same he (hc _ _) hI ⟨_, rfl, _, _, rfl, rfl, _, _, rfl, rfl, rfl⟩

/-! ### lists of strings -/
def strsOf : List AV → Option (List ByteArray)
  | [] => some []
  | .str s :: r => match strsOf r with
    | some l => some (s :: l)
    | none => none
  | _ => none

theorem strsOf_spec : ∀ {els : List AV} {l : List ByteArray}, strsOf els = some l → els = l.map .str
  | [], l, h => by cases h; rfl
  | c :: r, l, h => by
    cases c <;> simp only [strsOf] at h <;> first | (cases h; done) | skip
    split at h <;> first | (cases h; done) | skip
    rename_i l' hl
    cases h
    rw [strsOf_spec hl]; rfl

def xJoin : List AV → Store → Res
  | [.sl _ 1 els, .str sep], σ => match strsOf els with
    | some xs => cond (Nat.ble xs.length 140737488355328 && Nat.ble (Lib.join (xs.map (·.data.toList)) sep.data.toList).length 140737488355328) (some (.str (bs (Lib.join (xs.map (·.data.toList)) sep.data.toList)), σ)) none
    | none => none
  | _, _ => none

theorem sl_cells (hI : Inv K G σ W) {o : Own} {els : List AV} {a : Option Addr} {len cap : Nat} (hs : SliceRep G o 1 els a len cap) {x : Addr} (hx : a = some x) (j : Nat) (c : AV) (hc : els[j]? = some c) (hf : c.flat = true) :
    ∃ v, W.cell? ⟨x.block, x.off + j, none⟩ = some v ∧ Rep G c v := by
  have hrow := hs.hrow x hx j c hc
  have hcells : c.cells = [c] := by cases c <;> first | rfl | simp [AV.flat] at hf
  rw [hcells, Nat.mul_one] at hrow
  obtain ⟨v, hv⟩ := hrow 0 c rfl
  obtain ⟨h1, h2, _⟩ := hI.ro _ _ _ _ hv
  exact ⟨v, h1, h2⟩

theorem xJoin_good (he : Enters K.P f)
    (hnone : ∀ (a : Option Addr) (c : Nat) (sep : ByteArray), Calls K.P f #[.slice a 0 c, .string sep] W fun e w' => e = .returned (.string ByteArray.empty) ∧ Below W.heap.size W w')
    (hc : ∀ (bk o c : Nat) (xs : List ByteArray) (sep : ByteArray), (∀ (j : Nat) x, xs[j]? = some x → W.cell? ⟨bk, o + j, none⟩ = some (.string x)) → (xs ≠ [] → bk < W.heap.size) → xs.length ≤ 140737488355328 → xs.length ≤ c →
      (Lib.join (xs.map (·.data.toList)) sep.data.toList).length ≤ 140737488355328 →
      Calls K.P f #[.slice (some ⟨bk, o, none⟩) xs.length c, .string sep] W fun e w' => e = .returned (.string ⟨(Lib.join (xs.map (·.data.toList)) sep.data.toList).toArray⟩) ∧ Below W.heap.size W w')
    {args : List AV} {v : AV} {σ' : Store} (hx : xJoin args σ = some (v, σ')) (hI : Inv K G σ W) (hr : RepL G args vals.toList) : CallGood K G W f vals v σ' := by
  unfold xJoin at hx
  split at hx <;> first | (cases hx; done) | skip
  rename_i o els sep
  split at hx <;> first | (cases hx; done) | skip
  rename_i xs hxs
  cases hb : (Nat.ble xs.length 140737488355328 && Nat.ble (Lib.join (xs.map (·.data.toList)) sep.data.toList).length 140737488355328) with
  | false => rw [hb] at hx; cases hx
  | true =>
    rw [hb] at hx
    simp only [cond_true, Option.some.injEq, Prod.mk.injEq] at hx
    obtain ⟨rfl, rfl⟩ := hx
    simp only [Bool.and_eq_true] at hb
    have hb1 := Nat.le_of_ble_eq_true hb.1
    have hb2 := Nat.le_of_ble_eq_true hb.2
    obtain ⟨v1, v2, rfl, ⟨a, len, cap, rfl, hs⟩, h2⟩ := vals2 hr
    rw [show v2 = _ from h2]
    have hels := strsOf_spec hxs
    have hlen : len = xs.length := by rw [hs.hlen, hels]; simp
    by_cases hx0 : xs = []
    · subst hx0
      have hl0 : len = 0 := by simpa using hlen
      rw [hl0]
      exact good_below he (hnone a cap sep) hI rfl
    cases a with
    | none =>
      have h0 := hs.hnil rfl
      have h1 := hs.hcap
      exact absurd (List.length_eq_zero_iff.1 (by omega)) hx0
    | some x =>
      obtain ⟨b, off, sp⟩ := x
      have hpos : 0 < xs.length := List.length_pos_iff.2 hx0
      have hsp : sp = none := hs.hspot _ rfl (by have := hs.hcap; omega)
      subst hsp
      have hcell : ∀ (j : Nat) y, xs[j]? = some y → W.cell? ⟨b, off + j, none⟩ = some (.string y) := fun j y hy => by
        obtain ⟨u, h1, h2⟩ := sl_cells hI hs rfl j (.str y) (by rw [hels, List.getElem?_map, hy]; rfl) rfl
        rw [h1, show u = _ from h2]
      rw [hlen]
      refine good_below he (hc b off cap xs sep hcell (fun hne => ?_) hb1 (by have := hs.hcap; omega) hb2) hI rfl
      obtain ⟨y, r, rfl⟩ := List.exists_cons_of_ne_nil hne
      exact cell_lt (hcell 0 y rfl)

/-- a new slice of strings -/
theorem newStrs (hI : Inv K G σ W) {W' : World} (ty : TypeId) (xs : List ByteArray) (rest : List Value) (hW : W' = W.alloc (.cells (xs.map Value.string ++ rest).toArray ty)) :
    PostV K G (.sl .any 1 (xs.map .str)) σ (.slice (some ⟨W.heap.size, 0, none⟩) xs.length (xs.map Value.string ++ rest).length) W' := by
  subst hW
  have hrepl : ∀ (G : Ghost) (xs : List ByteArray), RepL G (xs.map AV.str) (xs.map Value.string) := fun G xs => by
    induction xs with
    | nil => rfl
    | cons x r ih => exact ⟨_, _, rfl, rfl, ih⟩
  have h1 : Inv K G σ (W.alloc (.cells (xs.map Value.string ++ rest).toArray ty)) := hI.keep ((Below.refl _ _).alloc (Nat.le_refl _) _)
  have h2 := h1.addRow (b := W.heap.size) (o := 0) (cs := xs.map AV.str) (vs := xs.map Value.string) (hrepl G xs) (fun c hc => by
      obtain ⟨x, _, rfl⟩ := List.mem_map.1 hc; rfl) (fun k v hv => by
      rw [World.cell?_alloc_new]
      have := (List.getElem?_eq_some_iff.1 hv).1
      simp only [Nat.zero_add, List.getElem?_toArray]
      rw [List.getElem?_append_left this]; exact hv) (fun i g hg k _ hh => by
      have := (hI.owned_lt hg _ (hides_owns hh)).2; omega)
  refine ⟨_, G.addRow_ext _ _ _ _, ⟨_, _, _, rfl, ?_⟩, h2⟩
  have hrow := G.addRow_row W.heap.size 0 (hrepl G xs)
  exact {
    hlen := by simp
    hcap := by simp
    hnil := fun h => by cases h
    hes := fun i el hel => by
      rw [List.getElem?_map, Option.map_eq_some_iff] at hel
      obtain ⟨x, _, rfl⟩ := hel; rfl
    hspot := fun x hx _ => by cases hx; rfl
    hrow := fun x hx i el hel => by
      cases hx
      have hel' := hel
      rw [List.getElem?_map, Option.map_eq_some_iff] at hel
      obtain ⟨y, _, rfl⟩ := hel
      intro k c hc
      have : k = 0 := by have := (List.getElem?_eq_some_iff.1 hc).1; simp [AV.cells] at this; exact this
      subst this
      simp only [AV.cells, List.getElem?_cons_zero, Option.some.injEq] at hc
      subst hc
      have := hrow i _ hel'
      simpa using this
    hown := trivial }

def xSplitN : List AV → Store → Res
  | [.str s, .str sep, .int .i64 (.ofNat n)], σ =>
    cond (decide (s.size < 4294967281) && (Nat.ble 1 sep.size && (Nat.ble 1 n && Nat.ble n 9223372036854775807))) (some (.sl .any 1 ((Lib.splitB sep 0 (min n (s.size + 1) - 1) s).map .str), σ)) none
  | _, _ => none

theorem splitB_length (sep : ByteArray) : ∀ (k : Nat) (s : ByteArray), (Lib.splitB sep 0 k s).length ≤ k + 1
  | 0, s => by simp [Lib.splitB]
  | k + 1, s => by
    simp only [Lib.splitB]
    split
    · simp
    · simp only [List.length_cons]; have := splitB_length sep k; exact Nat.succ_le_succ (this _)

theorem xSplitN_good (he : Enters K.P f) {ty : TypeId}
    (hc : ∀ (s sep : ByteArray) (n : Nat), s.size < 4294967281 → 1 ≤ sep.size → 1 ≤ n → n ≤ 9223372036854775807 → Calls K.P f #[.string s, .string sep, .int .i64 n] W fun e w' =>
      e = .returned (.slice (some ⟨W.heap.size, 0, none⟩) (Lib.splitB sep 0 (min n (s.size + 1) - 1) s).length (min n (s.size + 1))) ∧ w' = W.alloc (.cells (Lib.cellsOf (Lib.splitB sep 0 (min n (s.size + 1) - 1) s) (min n (s.size + 1))) ty))
    {args : List AV} {v : AV} {σ' : Store} (hx : xSplitN args σ = some (v, σ')) (hI : Inv K G σ W) (hr : RepL G args vals.toList) : CallGood K G W f vals v σ' := by
  unfold xSplitN at hx
  split at hx <;> first | (cases hx; done) | skip
  rename_i s sep n
  cases hb : (decide (s.size < 4294967281) && (Nat.ble 1 sep.size && (Nat.ble 1 n && Nat.ble n 9223372036854775807))) with
  | false => rw [hb] at hx; cases hx
  | true =>
    rw [hb] at hx
    simp only [cond_true, Option.some.injEq, Prod.mk.injEq] at hx
    obtain ⟨rfl, rfl⟩ := hx
    simp only [Bool.and_eq_true, decide_eq_true_eq] at hb
    obtain ⟨b1, b2, b3, b4⟩ := hb
    have b2 := Nat.le_of_ble_eq_true b2
    have b3 := Nat.le_of_ble_eq_true b3
    have b4 := Nat.le_of_ble_eq_true b4
    obtain ⟨v1, v2, v3, rfl, h1, h2, h3⟩ := vals3 hr
    rw [show v1 = _ from h1, show v2 = _ from h2, show v3 = _ from h3]
    refine good_of he ((hc s sep n b1 b2 b3 b4).mono fun e w' ⟨k1, k2⟩ => ⟨_, k1, ?_⟩)
    have hlen := splitB_length sep (min n (s.size + 1) - 1) s
    have := newStrs (W' := w') hI ty (Lib.splitB sep 0 (min n (s.size + 1) - 1) s) (List.replicate (min n (s.size + 1) - (Lib.splitB sep 0 (min n (s.size + 1) - 1) s).length) (Value.string ByteArray.empty)) k2
    have hsz : ((Lib.splitB sep 0 (min n (s.size + 1) - 1) s).map Value.string ++ List.replicate (min n (s.size + 1) - (Lib.splitB sep 0 (min n (s.size + 1) - 1) s).length) (Value.string ByteArray.empty)).length = min n (s.size + 1) := by
      simp; omega
    rw [hsz] at this
    exact this

end
end Go.Av
