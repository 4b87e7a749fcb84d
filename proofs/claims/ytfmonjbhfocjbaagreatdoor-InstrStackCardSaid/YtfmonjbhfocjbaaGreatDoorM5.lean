/- hammocklaw20.InstrStack answers true at every instruction and leaves it as it was. Conditions: the seven variables of Go's library that the row lists hold what the program's text lays; what the card says of start-up and of the pruned copy. -/
import Derived.Test.YtfmonjbhfocjbaaGreatDoorP4
import Derived.Test.YtfmonjbhfocjbaaGreatDoorK2
import Derived.Test.YtfmonjbhfocjbaaGreatDoorAvO
import Derived.Lib.LaidIn
import Derived.Deep.DeepHandedRow
import Derived.Deep.DeepWitnessRowRef
import Derived.Test.YtfmonjbhfocjbaaGreatDoorCards
import Derived.Test.YtfmonjbhfocjbaaGreatDoorTie
namespace Go.Av.M
open Go Go.Av Go.Proofs Go.RowKit Go.Av.X Go.ChangeShapes
open Go.Av.U (sysB extB law5 encT)
open YtfmonjbhfocjbaaGreatDoor

noncomputable def cfgB (W : World) : Cfg := ⟨Tryz.prog, fun _ => .top, W.heap.size, W, fun fn p lv ps assign body sz => RngOK Tryz.prog sysB fn p lv ps assign body sz⟩
theorem cfgB_P (W : World) : (cfgB W).P = Tryz.prog := by unfold cfgB; with_reducible rfl

set_option maxRecDepth 20000 in
theorem sysB_ok {W : World} (hF : Facts W) : SysOK (cfgB W) sysB where
  gl := rfl
  pure := fun _ => rfl
  mixed := T.mixed
  funcs := fun f fc h => U.sysB_codes h
  rng := fun _ _ _ _ _ _ _ => Iff.rfl
  ext := fun f args σ v σ' G W' vals _ hx hI hr => by
    have hx' : extB f args σ = some (v, σ') := hx
    have hb : Below W.heap.size W W' := hI.below
    have hf2 : Facts W' := hF.below hb hF.size
    unfold extB at hx'
    split at hx'
    · cases hx'
      have h0 : vals = #[] := by
        have : vals.toList = [] := hr
        simpa using this
      subst h0
      exact T.knows_good (cfgB_P W) hf2 hI
    · cases hx'

def types : List TypeId := [45, 43, 138, 3]
theorem types_ok : ∀ t ∈ types, okT Tryz.prog types t = true := by
  intro t ht
  simp only [types, List.mem_cons, List.not_mem_nil, or_false] at ht
  rcases ht with rfl | rfl | rfl | rfl <;> kernel_rfl

set_option maxRecDepth 20000 in
/-- what an instruction reads as -/
theorem shape {H : Type} {enc : TypeId × Value → H} {W : World} {fuel : Nat} {cs : List Value} {x : DataW H × List MemPlace} (h : DataW.trod enc Tryz.prog W 0 (fun _ => true) true fuel 45 cs = some x) :
    ∃ (op a b : Int) (tb : List (Int × Int)), avD Tryz.prog false x.1 45 = [.int .i64 op, .int .i64 a, .int .i64 b, .sl .any 2 (encT tb)] := by
  obtain ⟨xs, n, rfl, rfl, hl, hx, hget⟩ := DataW.trod_struct Tryz.underlying45 h
  match xs, hx with
  | [x0, x1, x2, x3], _ =>
    obtain ⟨n0, _, e0, _⟩ := DataW.trod_int Tryz.underlying3 (hget 0 _ rfl)
    obtain ⟨n1, _, e1, _⟩ := DataW.trod_int Tryz.underlying3 (hget 1 _ rfl)
    obtain ⟨n2, _, e2, _⟩ := DataW.trod_int Tryz.underlying3 (hget 2 _ rfl)
    have h3 : DataW.trod enc Tryz.prog W 0 (fun _ => true) true n 43 ((cs.drop 3).take (Tryz.prog.cellsOf 43)) = some x3 := hget 3 _ rfl
    obtain ⟨tb, htb⟩ : ∃ tb, avD Tryz.prog false x3.1 43 = [.sl .any 2 (encT tb)] := by
      rcases slice_elems Tryz.underlying43 h3 with h4 | ⟨els, rest, h4, _, h5⟩
      · rw [h4]
        refine ⟨[], ?_⟩
        simp only [avD, Tryz.underlying43]
        rfl
      · obtain ⟨ps, h6, _⟩ := avEls_of (P := Tryz.prog) (nn := false) (e := 138) (f := fun p : Int × Int => [.int .i64 p.1, .int .i64 p.2]) els (fun d hd => by
          obtain ⟨us, m, q, h7⟩ := h5 d hd
          obtain ⟨ys, m', rfl, e, hl', hy, hg⟩ := DataW.trod_array Tryz.underlying138 h7
          match ys, hy with
          | [y0, y1], _ =>
            obtain ⟨m0, _, f0, _⟩ := DataW.trod_int Tryz.underlying3 (hg 0 (by omega))
            obtain ⟨m1, _, f1, _⟩ := DataW.trod_int Tryz.underlying3 (hg 1 (by omega))
            refine ⟨(m0, m1), ?_⟩
            have : d = .agg [.lit (.int .i64 m0), .lit (.int .i64 m1)] := by
              rw [show d = _ from congrArg Prod.fst e, f0, f1]; rfl
            rw [this]
            simp only [avD, Tryz.underlying138, avArr]
            rfl)
        refine ⟨ps, ?_⟩
        rw [h4]
        simp only [avD, Tryz.underlying43, h6]
        have hA : isAgg Tryz.prog 138 = true := by kernel_rfl
        have hC : Tryz.prog.cellsOf 138 = 2 := by kernel_rfl
        rw [hA, hC]
        rfl
    refine ⟨n0, n1, n2, tb, ?_⟩
    simp only [avD, Tryz.underlying45, List.map_cons, List.map_nil, avFs, e0, e1, e2, htb]
    rfl

theorem laidOut : laidOutB Tryz.prog = true := by kernel_rfl
theorem readable : ∀ t ∈ Tryz.f5.params.toList, Tryz.prog.readableRec t = true ∧ t < Tryz.prog.types.size := by
  rw [Tryz.params5]
  intro t ht
  obtain rfl : t = 45 := by simpa using ht
  exact ⟨by kernel_rfl, of_decide_eq_true (by kernel_rfl)⟩

theorem blt5 : Nat.blt 5 yb = true := by kernel_rfl
theorem enters5 : Enters Tryz.prog 5 := enters_fn Tryz.func5 (by kernel_rfl) (by kernel_rfl)

set_option maxRecDepth 20000 in
theorem contract (H : Type) (enc : TypeId × Value → H) (W : World) (base : Nat) (args : Array Value) (ds gs : List (DataW H)) (before : List MemPlace)
    (hval : ∀ (j : Nat) t v, Tryz.f5.params[j]? = some t → args[j]? = some v → Value.okWide Tryz.prog W .any base t v)
    (hW : DataW.Whole enc Tryz.prog Tryz.f5.params.toList Rows.instrStackSpec.vars false W args.toList ds gs before) (hL : laidMetH Tryz.prog Rows.instrStackRow.laid W) (hS : W.ShapedOpen Tryz.prog) :
    Calls Tryz.prog 5 args W fun e W' => ∃ v, e = .returned v ∧ Rows.instrStackSpec.post enc Tryz.prog Tryz.f5 false true false false W args v W' := by
  have hW' := hW
  obtain ⟨p, q, hA0, hV, rfl, hfz, hnd⟩ := hW
  have hA : DataW.TrodAll enc Tryz.prog W 0 (fun _ => true) true Tryz.f5.params.toList args.toList ds p := hA0
  rw [Tryz.params5] at hA hval
  obtain ⟨v0, vs0, d0, ds0, p0, q0, hargs, rfl, rfl, h0, r0⟩ := trodAll_cons hA
  obtain ⟨rfl, rfl, rfl⟩ := trodAll_nil r0
  obtain rfl : args = #[v0] := by cases args; simp_all
  obtain ⟨rfl, rfl⟩ := trodVars_none hV
  obtain ⟨fuel, ht⟩ := h0
  obtain ⟨op, a, b, tb, hs⟩ := shape ht
  have hrep := (av_rep (nn := false) (held := true) types_ok fuel 45 v0.cells.toList (d0, p0) (by decide) ht).1
  have hF := facts_open hL hS
  have hI := inv_open (H := H) (enc := enc) (P := Tryz.prog) (W := W) (held := true) (nn := false) types_ok (cfgB W) (cfgB_P W) rfl rfl (fun n => trivial)
  have hr1 := rep_agg Tryz.underlying45 (hval 0 45 v0 rfl rfl) hrep
  rw [hs] at hr1
  have hc := CALL_ok (K := cfgB W) (A := sysB) (sysB_ok hF) (law5 op a b tb []) blt5 hI (vals := #[v0]) ⟨v0, [], rfl, hr1, rfl⟩
  have hc2 : CallGood (cfgB W) (roG enc Tryz.prog W true false types) W 5 #[v0] (.bool true) [] := hc
  unfold CallGood at hc2
  rw [cfgB_P, enters5 #[v0] W] at hc2
  refine (callsIn_wide.1 (hc2 0)).mono fun e W' ⟨val, he, G', _, hv, hI'⟩ => ?_
  have hv' : val = .bool true := hv
  subst hv'
  have hb : Below W.heap.size W W' := hI'.below
  exact ⟨_, he, post_true (tb := 4) laidOut readable Tryz.underlying4 (by kernel_rfl) rfl rfl hW' hA0 hb⟩

/-! ### the witness -/
def rowU : Nat → DataW Unit → List Value
  | 0, _ => []
  | n + 1, .agg ds => ds.flatMap (rowU n)
  | _ + 1, .lit (.int k z) => [.int k z]
  | _ + 1, _ => []

noncomputable def laidWorld (os : Os) : World :=
  let w0 := World.holding Tryz.prog os ⟨#[], #[], []⟩
  let N := w0.heap.size
  let put (h : Array Obj) (g : Nat) (cs : Array Value) : Array Obj := h.modify g fun
    | .cells _ t frozen => .cells cs t frozen
    | o => o
  let h0 := (w0.heap.push (.cells #[.string ⟨#[118, 97, 108, 117, 101, 32, 111, 117, 116, 32, 111, 102, 32, 114, 97, 110, 103, 101]⟩] 339)).push (.cells #[.string ⟨#[105, 110, 118, 97, 108, 105, 100, 32, 115, 121, 110, 116, 97, 120]⟩] 339)
  let h1 := put h0 1 (rowU 3 Rows.laid_internal_strconv_uint64pow10).toArray
  let h2 := put h1 2 #[.iface 337 (.pointer (some ⟨N + 1, 0, none⟩))]
  let h3 := put h2 3 #[.iface 337 (.pointer (some ⟨N, 0, none⟩))]
  let h4 := put h3 4 (rowU 3 Rows.laid_unicode_utf8_first).toArray
  let h5 := put h4 5 (rowU 3 Rows.laid_unicode_utf8_acceptRanges).toArray
  let h6 := put h5 6 (rowU 3 Rows.laid_math_bits_deBruijn32tab).toArray
  let h7 := put h6 7 (rowU 3 Rows.laid_math_bits_deBruijn64tab).toArray
  { w0 with heap := h7 }

theorem own : ownKnob Tryz.prog.godebug = none := by kernel_rfl
theorem laid_met (os : Os) (args : Array Value) : laidMet Tryz.prog Rows.instrStackRow.laid ((laidWorld os).forCall (fun _ _ => 0) ⟨#[], args, []⟩).memory :=
  laidMet_of_run' 8 (by kernel_rfl) (by kernel_rfl)

def arg5 : Value := .agg #[.int .i64 0, .int .i64 0, .int .i64 0, .slice none 0 0]

theorem witness_row (os : Os) {H : Type} (enc : TypeId × Value → H) :
    (OpenSpec.ofChange Rows.instrStackSpec).preRow enc Tryz.prog Tryz.f5 Rows.instrStackRow.domain false Rows.instrStackRow.laid ((laidWorld os).forCall (fun _ _ => 0) ⟨#[], #[arg5], []⟩).memory #[arg5] := by
  have hw : (DataW.whole enc Tryz.prog ((laidWorld os).forCall (fun _ _ => 0) ⟨#[], #[arg5], []⟩).memory Tryz.f5.params.toList Rows.instrStackSpec.vars false #[arg5].toList 8).map (fun x => (x.1, x.2.1)) =
      some ([.agg [.lit (.int .i64 0), .lit (.int .i64 0), .lit (.int .i64 0), .nil]], []) := by kernel_rfl
  obtain ⟨⟨x1, x2, x3⟩, hx, hx1⟩ := Option.map_eq_some_iff.1 hw
  simp only [Prod.mk.injEq] at hx1
  obtain ⟨rfl, rfl⟩ := hx1
  exact OpenSpec.preRow_of_cond 8 hx (by kernel_rfl) (fun k hk => by cases hk) (by kernel_rfl) (laid_met os _)

set_option maxRecDepth 100000 in
theorem lifted (os : Os) (started : os.Started) (H : Type) (enc : TypeId × Value → H) (F : Stop.Interp) :
    ReturnsInHanded {} Tryz.checked os 5 .any ((OpenSpec.ofChange Rows.instrStackSpec).preRow enc Tryz.prog Tryz.f5 Rows.instrStackRow.domain false Rows.instrStackRow.laid) (((OpenSpec.ofChange Rows.instrStackSpec).at F).post enc Tryz.prog Tryz.f5 false true false false) := by
  refine returnsInHanded_of_row (C := Tryz.checked) (s := OpenSpec.ofChange Rows.instrStackSpec) own started (by kernel_rfl) Tryz.func5
    (witness_row_atRef (enc := enc) (C := Tryz.checked) false (laidWorld os) #[arg5] rfl (by kernel_rfl) (by kernel_rfl) (by kernel_rfl) (witness_row os enc)) ?_
  intro W base args ds gs before hval hW _ _ _ hL hS _
  exact contract H enc W base args ds gs before hval hW hL hS

theorem said : Rows.InstrStackSaid :=
  OpenClaim.holds_of_cond 5 Tryz.f5 rfl rfl rfl rfl rfl rfl rfl ⟨rfl, rfl, rfl, rfl, rfl⟩ rfl rfl rfl rfl rfl (by kernel_rfl) Tryz.func5 (by kernel_rfl)
    (of_decide_eq_true (by kernel_rfl)) (by unfold Func.isWrapper; first | (rw [if_pos (by decide +kernel)]; kernel_rfl) | (rw [if_neg (by decide +kernel)]; exact ⟨rfl, rfl⟩))
    (fun os started H enc _ F => by rw [OpenClaim.pre_eq_preRow]; exact lifted os started H enc F)

theorem plain (f : FuncId) (fn : Func) (hf : Tryz.pinned.checked.prog.funcNamed "hammock/hammocklaw20.InstrStack" = some f) (hfn : Tryz.pinned.checked.prog.funcs[f]? = some fn) :
    true = Tryz.pinned.checked.prog.looks [] ∧ ∀ (j : Nat) t, fn.params[j]? = some t → Tryz.pinned.checked.prog.wantsStandIn t = false := by
  obtain rfl : f = 5 := Option.some.inj ((show Tryz.prog.funcNamed "hammock/hammocklaw20.InstrStack" = some 5 by kernel_rfl).symm.trans hf) |>.symm
  obtain rfl : fn = Tryz.f5 := (Option.some.inj (Tryz.func5.symm.trans hfn)).symm
  refine ⟨by kernel_rfl, fun j t ht => ?_⟩
  rw [Tryz.params5] at ht
  obtain rfl : t = 45 := by simpa using Array.mem_of_getElem? ht
  exact (show Tryz.prog.wantsStandIn 45 = false by kernel_rfl)

theorem card : Rows.InstrStackCardSaid :=
  Claim7.holds_tied_plain_at .later [] _ _ _ _ said (fun _ h => by cases h) (by kernel_rfl) (fun _ h => by cases h) instrStack_row_tie rfl ⟨rfl, rfl⟩ (by kernel_rfl) rfl plain (by kernel_rfl)
end Go.Av.M
namespace Go.Proofs.YtfmonjbhfocjbaaGreatDoor
theorem instrStackCard_holds : Rows.InstrStackCardSaid := Go.Av.M.card
#print axioms instrStackCard_holds
end Go.Proofs.YtfmonjbhfocjbaaGreatDoor
