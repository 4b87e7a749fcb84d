import Derived.Test.YtfmonjbhfocjbaaGreatDoorK1
import Derived.Test.YtfmonjbhfocjbaaGreatDoorF1
import Derived.Test.YtfmonjbhfocjbaaGreatDoorX1
import Derived.Shelf.Strconv.ErrVarAll
namespace Go.Av.T
open Go Go.Av Go.Proofs Go.RowKit Go.Av.X

theorem belowD {B : Nat} {a w : World} (h : Below B a w) (n : Nat) : Below B a (w.drewN n) := h.trans ⟨rfl, rfl, rfl, Nat.le_refl _, fun _ _ => rfl⟩
theorem belowS (w : World) (e : TypeId) (s : ByteArray) : Below w.heap.size w (Lib.bytesWorld w e s) := by
  unfold Lib.bytesWorld
  exact Lib.below_freeze ((Below.refl _ w).drew.alloc (Nat.le_refl _) _) (p := ⟨w.heap.size, _, none⟩) (Nat.le_refl _) _

theorem belowG {B : Nat} {a w : World} (h : Below B a w) (os : Array Obj) (hB : B ≤ w.heap.size := by exact Nat.le_refl _) : Below B a (Sort.grow w os) :=
  h.trans ⟨rfl, rfl, rfl, by simp [Sort.grow], fun k hk => by simp only [Sort.grow]; rw [Array.getElem?_append_left (by omega)]⟩

theorem e62 : Enters Tryz.prog 62 := enters_fn Tryz.func62 (by kernel_rfl) (by kernel_rfl)
theorem e63 : Enters Tryz.prog 63 := enters_fn Tryz.func63 (by kernel_rfl) (by kernel_rfl)
theorem e66 : Enters Tryz.prog 66 := enters_fn Tryz.func66 (by kernel_rfl) (by kernel_rfl)
theorem e126 : Enters Tryz.prog 126 := enters_fn Tryz.func126 (by kernel_rfl) (by kernel_rfl)
theorem e107 : Enters Tryz.prog 107 := enters_fn Tryz.func107 (by kernel_rfl) (by kernel_rfl)
theorem e109 : Enters Tryz.prog 109 := enters_fn Tryz.func109 (by kernel_rfl) (by kernel_rfl)
theorem e124 : Enters Tryz.prog 124 := enters_fn Tryz.func124 (by kernel_rfl) (by kernel_rfl)
theorem e169 : Enters Tryz.prog 169 := enters_fn Tryz.func169 (by kernel_rfl) (by kernel_rfl)
theorem e171 : Enters Tryz.prog 171 := enters_fn Tryz.func171 (by kernel_rfl) (by kernel_rfl)
theorem e176 : Enters Tryz.prog 176 := enters_fn Tryz.func176 (by kernel_rfl) (by kernel_rfl)
theorem e50 : Enters Tryz.prog 50 := enters_fn Tryz.func50 (by kernel_rfl) (by kernel_rfl)

theorem extA_ok {K : Cfg} (hP : K.P = Tryz.prog) {f : Nat} {args : List AV} {σ σ' : Store} {v : AV} {G : Ghost} {W : World} {vals : Array Value} (hF : Facts W)
    (hx : extA f args σ = some (v, σ')) (hI : Inv K G σ W) (hr : RepL G args vals.toList) : CallGood K G W f vals v σ' := by
  have H : ∀ {f : FuncId}, Enters Tryz.prog f → Enters K.P f := fun h => hP ▸ h
  unfold extA at hx
  obtain ⟨m, hm⟩ := hF.max
  split at hx
  · refine xJoin_good (H e62) (fun a c sep => ?_) (fun bk o c xs sep h1 h2 h3 h4 h5 => ?_) hx hI hr
    · rw [hP]
      exact (Tryz.strings_Join_none a c sep W).mono fun e w' ⟨h1, h2⟩ => ⟨h1, h2 ▸ Below.refl _ _⟩
    · rw [hP]
      by_cases hne : xs = []
      · subst hne
        exact (Tryz.strings_Join_none _ c sep W).mono fun e w' ⟨h1, h2⟩ => ⟨h1, h2 ▸ Below.refl _ _⟩
      · exact Tryz.strings_Join bk o c xs sep W h1 (h2 hne) h3 h4 h5
  · refine xItoa_good (H e63) (fun n h0 h1 => ?_) hx hI hr
    rw [hP]
    exact (Tryz.strconv_Itoa n h0 h1 W hF.tab).mono fun e w' ⟨h1, k, os, h2⟩ => ⟨h1, h2 ▸ belowG (belowD (Below.refl _ _) k) os⟩
  · refine xString_good (u8 := 5) (H e66) (fun b h1 => ?_) (fun b g cap l cur fz h1 h2 h3 h4 h5 h6 h7 => ?_) hx hI hr
    · rw [hP]
      exact string_nil Tryz.lays169 Tryz.Builder_Extra_169 b W h1
    · rw [hP]
      exact string_row Tryz.lays169 Tryz.Builder_Extra_169 b g cap l cur fz W h1 h2 h3 h4 h5 h6 h7
  · refine xCopyCheck_good (oks := [(125, 2)]) (H e126) (fun b h1 => ?_) (fun b n ty h0 h1 h2 h3 => ?_) hx hI hr
    · rw [hP]
      exact cc_used b W h1
    · rw [hP]
      simp only [List.mem_singleton, Prod.mk.injEq] at h0
      obtain ⟨rfl, rfl⟩ := h0
      exact cc_fresh b 2 125 W h1 h2 (by decide) (by kernel_rfl) h3
  · refine xIndexByte_good (H e107) (fun s c => ?_) hx hI hr
    rw [hP]
    exact Tryz.strings_IndexByte s c W
  · refine xSplitN_good (H e109) (ty := 9) (fun s sep n h1 h2 h3 h4 => ?_) hx hI hr
    rw [hP]
    exact Tryz.strings_SplitN s sep n m W h1 hm h2 h3 h4
  · refine xContains1_good (H e124) (fun s c => ?_) hx hI hr
    rw [hP]
    exact Tryz.strings_Contains_one s c W
  · obtain ⟨tp, p, hs⟩ := hF.syn
    obtain ⟨tp', p', hg⟩ := hF.rng
    refine xAtoi_good (H e169) (te := 302) (fun s n h1 h2 => ?_) (fun s h1 h2 h3 => ?_) (fun s h1 h2 => ?_) hx hI hr
    · rw [hP]
      refine (Tryz.strconv_Atoi_ok s (by omega) n h2 W).mono fun e w' ⟨h1, h2⟩ => ⟨h1, ?_⟩
      rcases h2 with rfl | ⟨t, rfl⟩
      · exact Below.refl _ _
      · exact belowS W 5 t
    · rw [hP]
      cases he : Lib.atoiAll s.data.toList with
      | ok n => exact absurd he (h2 n)
      | range => exact absurd he h3
      | _ => exact (Any.strconv_Atoi_syntax_var Tryz.laysC172 s h1 he tp p W hs).mono fun e w' ⟨N, h1, _, _, h2⟩ => ⟨_, h1, h2⟩
    · rw [hP]
      exact (Tryz.strconv_Atoi_range_var s h1 h2 tp' p' W hg).mono fun e w' ⟨N, h1, _, _, h2⟩ => ⟨_, h1, h2⟩
  · refine xCut_good (H e171) (fun s sep h1 => ?_) hx hI hr
    rw [hP]
    exact (Tryz.strings_Cut s sep m W h1 hm).mono fun e w' ⟨h1, n, h2⟩ => ⟨h1, h2 ▸ belowD (Below.refl _ _) n⟩
  · refine xIndex1_good (H e176) (fun s c => ?_) hx hI hr
    rw [hP]
    exact Tryz.strings_Index_one s c W
  · refine xCutSuffix_good (H e50) (fun s p h1 => ?_) hx hI hr
    rw [hP]
    exact Tryz.strings_CutSuffix s p W h1
  · cases hx

/-- the system over a world -/
noncomputable def cfgA (W : World) : Cfg := ⟨Tryz.prog, fun _ => .top, W.heap.size, W, fun fn p lv ps assign body sz => RngOK Tryz.prog sysA fn p lv ps assign body sz⟩

theorem cfgA_P (W : World) : (cfgA W).P = Tryz.prog := by unfold cfgA; with_reducible rfl
theorem blt10 : Nat.blt 10 yb = true := by kernel_rfl
theorem mixed : Tryz.prog.follows .mixedOrders = true := by kernel_rfl
set_option maxRecDepth 20000 in
theorem sysA_ok {W : World} (hF : Facts W) : SysOK (cfgA W) sysA where
  gl := rfl
  pure := fun _ => rfl
  mixed := mixed
  funcs := fun f fc h => sysA_codes h
  rng := fun _ _ _ _ _ _ _ => Iff.rfl
  ext := fun f args σ v σ' G W' vals _ hx hI hr => by
    have hx' : extA f args σ = some (v, σ') := hx
    have hb : Below W.heap.size W W' := hI.below
    have hf2 : Facts W' := hF.below hb hF.size
    have hp := cfgA_P W
    have := extA_ok (K := cfgA W) hp hf2 hx' hI hr
    exact this

set_option maxRecDepth 20000 in
/-- knows() says true, whatever the world; nothing that there was is changed -/
theorem knows_good {K : Cfg} (hP : K.P = Tryz.prog) {G : Ghost} {σ : Store} {W : World} (hF : Facts W) (hI : Inv K G σ W) : CallGood K G W 10 #[] (.bool true) σ := by
  have h0 : Inv (cfgA W) ⟨fun _ _ _ _ => False, [], fun _ => False⟩ [] W := {
    len := rfl
    below := Below.refl _ _
    base := Nat.le_refl _
    ro := fun _ _ _ _ h => h.elim
    obj := fun i g a hg => by simp at hg
    sep := fun i j gi gj x hg => by simp at hg
    hid := fun i g hg => by simp at hg
    gl := fun n => trivial
    fx := fun D h => h.elim }
  have hc := CALL_ok (K := cfgA W) (A := sysA) (sysA_ok hF) knows blt10 h0 (vals := #[]) RepL.nil
  have he : Enters Tryz.prog 10 := enters_fn Tryz.func10 (by kernel_rfl) (by kernel_rfl)
  unfold CallGood at hc ⊢
  rw [hP]
  have he' := he #[] W
  rw [show (cfgA W).P = Tryz.prog from rfl] at hc
  rw [he'] at hc ⊢
  intro n
  refine (hc n).mono fun e w' ⟨val, h1, G', hx, hrep, hI'⟩ => ⟨val, h1, G, Ext.refl G, ?_, ?_⟩
  · exact hrep
  · exact hI.keep hI'.below
end Go.Av.T
