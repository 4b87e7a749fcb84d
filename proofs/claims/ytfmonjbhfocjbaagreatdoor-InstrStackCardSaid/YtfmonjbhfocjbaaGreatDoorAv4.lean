/- More operations: arithmetic, comparisons, strings, slices, fields, indexes, new memory. -/
import Derived.Test.YtfmonjbhfocjbaaGreatDoorAv3
namespace Go.Av
open Go Go.RowKit

/-! ### types, as far as they are needed -/
inductive TyK where
  | bool
  | int (k : IntKind)
  | str
  | slice (e : Nat)
  | arr (n e : Nat)
  | struct (fs : List (Nat × Nat × Bool))
  | map (k v : Nat)
  | ptr (e : Nat)
  | func
  | iface
  | other

def vToAV : Value → Option AV
  | .bool b => some (.bool b)
  | .int k n => some (.int k n)
  | .string s => some (.str s)
  | .pointer none => some .nilp
  | .slice none 0 0 => some (.sl .nil 0 [])
  | .map none => some .nilm
  | .nilFunc => some .nilf
  | .nilIface => some .nili
  | _ => none

def vsToAV : List Value → Option (List AV)
  | [] => some []
  | v :: r => match vToAV v, vsToAV r with | some c, some cs => some (c :: cs) | _, _ => none

theorem vToAV_rep (G : Ghost) {v : Value} {c : AV} (h : vToAV v = some c) : Rep G c v ∧ c.flat = true := by
  unfold vToAV at h
  split at h <;> simp only [Option.some.injEq, reduceCtorEq] at h
  all_goals subst h
  all_goals refine ⟨?_, rfl⟩
  all_goals try rfl
  exact ⟨none, 0, 0, rfl, rfl, Nat.le_refl _, fun _ => rfl, fun i el h => by simp at h, fun x h => (by cases h), fun x h => (by cases h), rfl⟩

theorem vsToAV_rep (G : Ghost) : ∀ {vs : List Value} {cs : List AV}, vsToAV vs = some cs → RepL G cs vs ∧ ∀ c ∈ cs, c.flat = true
  | [], cs, h => by simp [vsToAV] at h; subst h; exact ⟨rfl, fun c hc => by simp at hc⟩
  | v :: r, cs, h => by
    simp only [vsToAV] at h
    split at h
    · rename_i c cs' h1 h2
      cases h
      obtain ⟨k1, k2⟩ := vToAV_rep G h1
      obtain ⟨k3, k4⟩ := vsToAV_rep G h2
      refine ⟨⟨v, r, rfl, k1, k3⟩, fun d hd => ?_⟩
      rcases List.mem_cons.1 hd with rfl | hd
      · exact k2
      · exact k4 d hd
    · cases h

def constAV : Value → Option AV
  | .agg cs => (vsToAV cs.toList).map .agg
  | .tuple cs => if cs.size = 0 then some (.tup []) else none
  | v => vToAV v

theorem constAV_rep (G : Ghost) {v : Value} {c : AV} (h : constAV v = some c) : Rep G c v := by
  unfold constAV at h
  split at h
  · rename_i cs
    cases hv : vsToAV cs.toList with
    | none => simp [hv] at h
    | some l => simp [hv] at h; subst h; exact ⟨cs, rfl, (vsToAV_rep G hv).1⟩
  · split at h
    · rename_i cs he; cases h; exact ⟨cs, rfl, by simp [Array.size_eq_zero_iff.1 he, RepL]⟩
    · cases h
  · exact (vToAV_rep G h).1

def descAgg : TypeDesc → Bool
  | .struct _ => true
  | .array _ _ => true
  | _ => false

def szOf (P : Program) (T : TypeId) : Option Nat := (P.info? T).map (·.size)
def agOf (P : Program) (T : TypeId) : Option Bool := (P.underlying T).map descAgg
def byOf (P : Program) (T : TypeId) : Option Nat := (P.info? T).map (·.bytes)
def zeroOf (P : Program) (T : TypeId) : Option (List AV) := (P.info? T).bind fun i => i.zero.bind fun z => vsToAV z.cells.toList

theorem szOf_run {P : Program} {T : TypeId} {n : Nat} (h : szOf P T = some n) (w : World) : (sizeOf T).run P w = .ok n w := by
  unfold szOf at h
  cases hi : P.info? T with
  | none => simp [hi] at h
  | some i => simp [hi] at h; subst h; simp [sizeOf, typeInfo, hi]

theorem agOf_run {P : Program} {T : TypeId} {b : Bool} (h : agOf P T = some b) (w : World) : (isAgg T).run P w = .ok b w := by
  unfold agOf at h
  cases hd : P.underlying T with
  | none => simp [hd] at h
  | some d => simp [hd] at h; subst h; cases d <;> simp [isAgg, run_underlying hd, descAgg]

theorem zeroOf_run {P : Program} {T : TypeId} {cs : List AV} (h : zeroOf P T = some cs) : ∃ z, (∀ w, (zeroValue T).run P w = .ok z w) ∧ vsToAV z.cells.toList = some cs := by
  unfold zeroOf at h
  cases hi : P.info? T with
  | none => simp [hi] at h
  | some i =>
    simp only [hi, Option.bind_some, Option.bind_eq_some_iff] at h
    obtain ⟨z, hz, hc⟩ := h
    exact ⟨z, fun w => by simp [zeroValue, typeInfo, hi, hz], hc⟩

section
variable {K : Cfg} {G : Ghost} {σ : Store} {w : World}

/-! ### numbers, bools, strings -/
def eIbin (op : BinOp) : AV → AV → Option AV
  | .int k a, .int k' b =>
    match op with
    | .shl => if b < 0 then none else some (.int k (k.wrap (a * 2 ^ min b.toNat k.bits)))
    | .shr => if b < 0 then none else some (.int k (a.fdiv (2 ^ min b.toNat k.bits)))
    | op => if k = k' then
      match op with
      | .add => some (.int k (k.wrap (a + b)))
      | .sub => some (.int k (k.wrap (a - b)))
      | .mul => some (.int k (k.wrap (a * b)))
      | .quo => if b = 0 then none else some (.int k (k.wrap (a.tdiv b)))
      | .rem => if b = 0 then none else some (.int k (a.tmod b))
      | .and => some (.int k (bits .and k a b))
      | .or => some (.int k (bits .or k a b))
      | .xor => some (.int k (bits .xor k a b))
      | .eql => some (.bool (a == b))
      | .neq => some (.bool (a != b))
      | .lss => some (.bool (decide (a < b)))
      | .leq => some (.bool (decide (a ≤ b)))
      | .gtr => some (.bool (decide (b < a)))
      | .geq => some (.bool (decide (b ≤ a)))
      | _ => none
      else none
  | _, _ => none

theorem ibin_run (P : Program) (w : World) {op : BinOp} {T : TypeId} {k k' : IntKind} {a b : Int} {v : AV} (he : eIbin op (.int k a) (.int k' b) = some v) :
    ∃ val, (binOp op T (.int k a) (.int k' b)).run P w = .ok val w ∧ vToAV val = some v := by
  simp only [eIbin] at he
  split at he
  · split at he
    · exact absurd he (by simp)
    · rename_i hb; cases he; exact ⟨_, by (simp [binOp, Op.shift, hb]) <;> rfl, rfl⟩
  · split at he
    · exact absurd he (by simp)
    · rename_i hb; cases he; exact ⟨_, by (simp [binOp, Op.shift, hb]) <;> rfl, rfl⟩
  · split at he
    · rename_i hk
      subst hk
      split at he
      case h_4 =>
        split at he
        · exact absurd he (by simp)
        · rename_i hb; cases he; exact ⟨_, by (simp [binOp, Op.intDiv, hb]) <;> rfl, rfl⟩
      case h_5 =>
        split at he
        · exact absurd he (by simp)
        · rename_i hb; cases he; exact ⟨_, by (simp [binOp, Op.intDiv, hb]) <;> rfl, rfl⟩
      all_goals first
        | (simp at he; done)
        | (cases he; exact ⟨_, by (simp [binOp, Op.intArith, Op.intCmp, intBits_and, intBits_or, intBits_xor]) <;> rfl, rfl⟩)
    · exact absurd he (by simp)

theorem ibin_ok (h : Inv K G σ w) {op : BinOp} {T : TypeId} {ox oy : Operand} {x y v : AV} {vx vy : Value} (hx : Rep G x vx) (hy : Rep G y vy) (he : eIbin op x y = some v) :
    SemOK K G w (do eqGuard op T ox oy vx vy; binOp op T vx vy) v σ := by
  cases x <;> cases y <;> first | (simp [eIbin] at he; done) | skip
  rename_i k a k' b
  rw [show vx = .int k a from hx, show vy = .int k' b from hy]
  have hg : eqGuard op T ox oy (.int k a) (.int k' b) = pure () := eqGuard_at_int ..
  obtain ⟨val, h1, h2⟩ := ibin_run K.P w (T := T) he
  exact SemOK.pure' h (by simp [hg, h1]) (vToAV_rep G h2).1

def eSbin (op : BinOp) : AV → AV → Option AV
  | .str a, .str b => match op with
    | .add => if a.size + b.size ≤ 9223372036854775807 then some (.str (a ++ b)) else none
    | .eql => some (.bool (a.toList == b.toList))
    | .neq => some (.bool (!(a.toList == b.toList)))
    | .lss => some (.bool (Op.bytesLess a.toList b.toList))
    | .leq => some (.bool (Op.bytesLess a.toList b.toList || a.toList == b.toList))
    | .gtr => some (.bool (!(Op.bytesLess a.toList b.toList || a.toList == b.toList)))
    | .geq => some (.bool (!Op.bytesLess a.toList b.toList))
    | _ => none
  | _, _ => none

theorem sbin_run (P : Program) (w : World) {op : BinOp} {T : TypeId} {a b : ByteArray} {v : AV} (he : eSbin op (.str a) (.str b) = some v) :
    ∃ val, (binOp op T (.string a) (.string b)).run P w = .ok val w ∧ vToAV val = some v := by
  simp only [eSbin] at he
  split at he
  case h_1 =>
    split at he
    · rename_i hb
      cases he
      have : ¬ (9223372036854775807 < (a.size : Int) + (b.size : Int)) := by omega
      exact ⟨_, by (simp [binOp, Op.stringOp, this]) <;> rfl, rfl⟩
    · exact absurd he (by simp)
  all_goals first
    | (simp at he; done)
    | (cases he; exact ⟨_, by simp only [binOp, Op.stringOp]; rfl, rfl⟩)

theorem sbin_ok (h : Inv K G σ w) {op : BinOp} {T : TypeId} {ox oy : Operand} {x y v : AV} {vx vy : Value} (hx : Rep G x vx) (hy : Rep G y vy) (he : eSbin op x y = some v) :
    SemOK K G w (do eqGuard op T ox oy vx vy; binOp op T vx vy) v σ := by
  cases x <;> cases y <;> first | (simp [eSbin] at he; done) | skip
  rename_i a b
  rw [show vx = .string a from hx, show vy = .string b from hy]
  have hg : eqGuard op T ox oy (.string a) (.string b) = pure () := eqGuard_at_string ..
  obtain ⟨val, h1, h2⟩ := sbin_run K.P w (T := T) he
  exact SemOK.pure' h (by simp [hg, h1]) (vToAV_rep G h2).1

def eNot : AV → Option AV
  | .bool b => some (.bool (!b))
  | _ => none
def eNeg : AV → Option AV
  | .int k n => some (.int k (k.wrap (0 - n)))
  | _ => none

theorem not_ok (h : Inv K G σ w) {x v : AV} {vx : Value} (hx : Rep G x vx) (he : eNot x = some v) : SemOK K G w (Op.unary .not vx) v σ := by
  cases x <;> simp only [eNot, Option.some.injEq, reduceCtorEq] at he
  subst he; rw [show vx = .bool _ from hx]
  exact SemOK.pure' h (by simp only [Op.unary]; rfl) rfl
theorem neg_ok (h : Inv K G σ w) {x v : AV} {vx : Value} (hx : Rep G x vx) (he : eNeg x = some v) : SemOK K G w (Op.unary .neg vx) v σ := by
  cases x <;> simp only [eNeg, Option.some.injEq, reduceCtorEq] at he
  subst he; rw [show vx = .int _ _ from hx]
  exact SemOK.pure' h (by simp only [Op.unary, Op.intArith]; rfl) rfl

def eConv (k : IntKind) : AV → Option AV
  | .int _ n => some (.int k (k.wrap n))
  | _ => none
theorem conv_ok (h : Inv K G σ w) {src dst : TypeId} {k : IntKind} (hs : (K.P.underlying src).isSome = true) (hd : K.P.underlying dst = some (.int k)) {x v : AV} {vx : Value} (hx : Rep G x vx)
    (he : eConv k x = some v) : SemOK K G w (convert src dst vx) v σ := by
  cases x <;> simp only [eConv, Option.some.injEq, reduceCtorEq] at he
  subst he; rw [show vx = .int _ _ from hx]
  obtain ⟨d, hd'⟩ := Option.isSome_iff_exists.mp hs
  exact SemOK.pure' h (by simp [convert, run_underlying hd', run_underlying hd, Conv.intToInt]) rfl

def eCstr : AV → Option AV
  | .str s => some (.str s)
  | _ => none
theorem cstr_ok (h : Inv K G σ w) {src dst : TypeId} (hs : (K.P.underlying src).isSome = true) (hd : K.P.underlying dst = some .string) {x v : AV} {vx : Value} (hx : Rep G x vx)
    (he : eCstr x = some v) : SemOK K G w (convert src dst vx) v σ := by
  cases x <;> simp only [eCstr, Option.some.injEq, reduceCtorEq] at he
  subst he; rw [show vx = .string _ from hx]
  obtain ⟨d, hd'⟩ := Option.isSome_iff_exists.mp hs
  exact SemOK.pure' h (by simp [convert, run_underlying hd', run_underlying hd]) rfl

/-! ### lengths, strings' pieces -/
def eLens : AV → Option AV
  | .str s => some (.int .i64 s.size)
  | _ => none
def eLenl : AV → Option AV
  | .sl _ _ els => some (.int .i64 els.length)
  | .sa _ _ len _ _ => some (.int .i64 len)
  | _ => none

theorem lens_ok (h : Inv K G σ w) {T ty : TypeId} (hT : K.P.underlying T = some .string) {x v : AV} {vx : Value} (hx : Rep G x vx) (he : eLens x = some v) :
    SemOK K G w (Builtin.len_ #[T] ty #[vx]) v σ := by
  cases x <;> first | (simp [eLens] at he; done) | skip
  simp only [eLens, Option.some.injEq] at he
  subst he
  rw [show vx = .string _ from hx]
  exact SemOK.pure' h (run_len_string w T ty _ hT) rfl
theorem lenl_ok (h : Inv K G σ w) {T ty e : TypeId} (hT : K.P.underlying T = some (.slice e)) {x v : AV} {vx : Value} (hx : Rep G x vx) (he : eLenl x = some v) :
    SemOK K G w (Builtin.len_ #[T] ty #[vx]) v σ := by
  cases x <;> first | (simp [eLenl] at he; done) | skip
  all_goals simp only [eLenl, Option.some.injEq] at he
  all_goals subst he
  · obtain ⟨a, l, c, rfl, hs⟩ := hx
    exact SemOK.pure' h (val := goInt l) (by simp [Builtin.len_, run_underlying hT]) (by rw [← hs.hlen]; rfl)
  · obtain ⟨b, _, rfl⟩ := hx
    exact SemOK.pure' h (val := goInt _) (by simp [Builtin.len_, run_underlying hT]) rfl

def eIdxs : AV → AV → Option AV
  | .str s, .int _ i => if h : 0 ≤ i ∧ i.toNat < s.size then some (.int .u8 (s[i.toNat]'h.2).toNat) else none
  | _, _ => none

theorem idxs_ok (h : Inv K G σ w) {T : TypeId} (hT : K.P.underlying T = some .string) {x i v : AV} {vx vi : Value} (hx : Rep G x vx) (hi : Rep G i vi) (he : eIdxs x i = some v) :
    SemOK K G w (Instr.index T vx vi) v σ := by
  cases x <;> cases i <;> first | (simp [eIdxs] at he; done) | skip
  case str.int s k n =>
    simp only [eIdxs] at he
    rw [show vx = .string s from hx, show vi = .int k n from hi]
    split at he
    · rename_i hc
      cases he
      refine SemOK.pure' h ?_ rfl
      rw [run_index_string w T s k n hT, dif_pos ⟨hc.1, by omega⟩]
    · cases he

end
end Go.Av
