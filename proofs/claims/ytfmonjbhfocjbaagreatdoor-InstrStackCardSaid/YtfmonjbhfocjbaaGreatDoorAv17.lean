/- Functions: what the tail code of a function comes to, a call comes to. -/
import Derived.Test.YtfmonjbhfocjbaaGreatDoorAv16
import Derived.RangeFuncLeaves
namespace Go.Av
open Go Go.RowKit

section
variable {K : Cfg} {G : Ghost} {σ : Store} {w : World} {Fx : Nat → Prop}

theorem Rep.weakEls {o : Own} {es : Nat} {els : List AV} {v : Value} (h : Rep G (.sl o es els) v) : Rep G.wk (.sl o es (AV.weakL els)) v := by
  obtain ⟨a, len, cap, e, hs⟩ := h
  have h2 := Rep.weak (G := G) (c := .sl o es els) ⟨a, len, cap, e, hs⟩
  obtain ⟨a', len', cap', e', hs'⟩ := h2
  subst e
  cases e'
  exact ⟨a, len, cap, rfl, ⟨hs'.hlen, hs'.hcap, hs'.hnil, hs'.hes, hs'.hspot, hs'.hrow, hs.hown.mono G.wk_ext⟩⟩

theorem cutS_nil (σ : Store) (n : Nat) : cutS σ n [] = σ.take n := by simp [cutS]

theorem out_plain (hgl : ∀ k, (K.gl k).pure = true) {G₀ : Ghost} {σ₀ : Store} {w₀ : World} (h₀ : Inv K G₀ σ₀ w₀) (hx : Ext G₀ G) {v : AV} {val : Value} (hr : Rep G v val) (hI : Inv K G σ w) :
    (∃ G', Ext G₀ G' ∧ Rep G' v.weak val ∧ Inv K G' σ w) ∧
    (v.weak.pure = true ∧ keptS σ₀.length σ₀ σ ∧ σ₀.length ≤ σ.length → ∃ G', Ext G₀ G' ∧ Rep G' v.weak val ∧ Inv K G' (σ.take σ₀.length) w) := by
  refine ⟨⟨G.wk, hx.trans G.wk_ext, hr.weak, hI.weak⟩, fun ⟨h1, h2, h3⟩ => ?_⟩
  have hlen : G.wk.obj.length = σ.length := hI.len
  have hn : σ₀.length ≤ G.wk.obj.length := by rw [hlen]; exact h3
  have hc := hI.weak.cut hgl (n := σ₀.length) (ids := []) h3 (h2 (wfS_of h₀)) (fun j t h => by simp at h) (fun i j t h => by simp at h)
  rw [cutS_nil] at hc
  exact ⟨_, Ext.cut h₀ (hx.trans G.wk_ext) [] hn h₀.len, (hr.weak).cut hn (below_of_pure _ h1), hc⟩

theorem out_ok (hgl : ∀ k, (K.gl k).pure = true) (p : Pol) {G₀ : Ghost} {σ₀ : Store} {w₀ : World} (h₀ : Inv K G₀ σ₀ w₀) (hx : Ext G₀ G) {v : AV} {val : Value} (hr : Rep G v val) (hI : Inv K G σ w) :
    ∃ G', Ext G₀ G' ∧ Rep G' (outR p σ₀ v σ).1 val ∧ Inv K G' (outR p σ₀ v σ).2 w := by
  obtain ⟨q1, q2⟩ := out_plain hgl h₀ hx hr hI
  have keep : ∃ G', Ext G₀ G' ∧ Rep G' v val ∧ Inv K G' σ w := ⟨G, hx, hr, hI⟩
  unfold outR
  cases p.res with
  | false =>
    simp only [cond_false]
    split
    · rename_i h; exact q2 h
    · exact q1
  | true =>
    simp only [cond_true]
    have hlen : G.wk.obj.length = σ.length := hI.len
    split
    · rename_i t es els
      split
      · rename_i h
        obtain ⟨h1, h2, h3⟩ := h
        have hn : σ₀.length ≤ G.wk.obj.length := by rw [hlen]; exact h3
        split
        · rename_i ht
          have hc := hI.weak.cut hgl (n := σ₀.length) (ids := []) h3 (h2 (wfS_of h₀)) (fun j t h => by simp at h) (fun i j t h => by simp at h)
          rw [cutS_nil] at hc
          refine ⟨_, Ext.cut h₀ (hx.trans G.wk_ext) [] hn h₀.len, hr.weakEls.cut hn ?_, hc⟩
          simp only [AV.under, Own.under, Bool.and_eq_true, decide_eq_true_eq]
          exact ⟨ht, belowL_of_pure _ h1⟩
        · rename_i ht
          split
          · rename_i ty top hs
            have htlt := (List.getElem?_eq_some_iff.1 hs).1
            have hc := hI.weak.cut hgl (n := σ₀.length) (ids := [t]) h3 (h2 (wfS_of h₀)) (fun j t' h => by
                have hj := (List.getElem?_eq_some_iff.1 h).1
                simp only [List.length_singleton] at hj
                have hj0 : j = 0 := by omega
                subst hj0
                simp only [List.getElem?_cons_zero, Option.some.injEq] at h
                subst h
                exact ⟨by omega, htlt, ty, top, hs⟩) (fun i j t' hi hj => by
                have h1 := (List.getElem?_eq_some_iff.1 hi).1
                have h2 := (List.getElem?_eq_some_iff.1 hj).1
                simp only [List.length_singleton] at h1 h2
                omega)
            have hcs : cutS σ σ₀.length [t] = σ.take σ₀.length ++ [.tok ty top] := by
              simp [cutS, List.getD_eq_getElem?_getD, hs]
            rw [hcs] at hc
            have hx' := Ext.cut h₀ (hx.trans G.wk_ext) [t] hn h₀.len
            refine ⟨_, hx', ?_, hc⟩
            obtain ⟨a, len, cap, e, hsl⟩ := hr.weakEls
            -- as if nobody owned it
            have hany : Rep G.wk (.sl .any es (AV.weakL els)) val := ⟨a, len, cap, e, ⟨hsl.hlen, hsl.hcap, hsl.hnil, hsl.hes, hsl.hspot, hsl.hrow, trivial⟩⟩
            obtain ⟨a', len', cap', e', hsl'⟩ := hany.cut (n := σ₀.length) (ids := [t]) hn (by
              simp only [AV.under, Own.under, Bool.and_eq_true]; exact ⟨trivial, belowL_of_pure _ h1⟩)
            subst e
            cases e'
            refine ⟨a, len, cap, rfl, ⟨hsl'.hlen, hsl'.hcap, hsl'.hnil, hsl'.hes, hsl'.hspot, hsl'.hrow, ?_⟩⟩
            obtain ⟨b, c, top', k1, k2⟩ := hsl.hown
            refine ⟨b, c, top', ?_, k2⟩
            simp only [Ghost.cut]
            rw [List.getElem?_append_right (by simp; omega)]
            have : σ₀.length - (List.take σ₀.length G.wk.obj).length = 0 := by simp; omega
            rw [this]
            simp only [List.map_cons, List.getElem?_cons_zero, List.getD_eq_getElem?_getD, k1, Option.getD_some]
          · exact keep
      · exact keep
    · rename_i o es els hno
      split
      · rename_i h
        obtain ⟨h1, h2, h3⟩ := h
        have hn : σ₀.length ≤ G.wk.obj.length := by rw [hlen]; exact h3
        have hc := hI.weak.cut hgl (n := σ₀.length) (ids := []) h3 (h2 (wfS_of h₀)) (fun j t h => by simp at h) (fun i j t h => by simp at h)
        rw [cutS_nil] at hc
        refine ⟨_, Ext.cut h₀ (hx.trans G.wk_ext) [] hn h₀.len, hr.weakEls.cut hn ?_, hc⟩
        simp only [AV.under, Bool.and_eq_true]
        refine ⟨?_, belowL_of_pure _ h1⟩
        cases o <;> first | rfl | exact (hno _ rfl).elim
      · exact keep
    · split
      · rename_i h; exact q2 h
      · exact keep

/-! ### results -/
def resC (P : Program) : List ResultVar → Option (List LR)
  | [] => some []
  | .tmp t :: r => (resC P r).map (.t t :: ·)
  | .cell a T :: r => match agOf P T, szOf P T, resC P r with
    | some ag, some n, some l => some (.c ag n a :: l)
    | _, _, _ => none

def resOne (tmps : Array Value) : ResultVar → Sem Value
  | .tmp t => pure (tmps.getD t undef)
  | .cell a t => do loadVar t (← asAddr (tmps.getD a undef))

theorem one_ok (hI : Inv K G σ w) {N : Nat} {env : Env} {a : Act} (hE : EnvOK G Fx N env a) {x : ResultVar} {l : LR} (hc : resC K.P [x] = some [l]) {v : AV} (he : oneR σ env l = some v) :
    ∃ val, (resOne a.tmps x).run K.P w = .ok val w ∧ Rep G v val := by
  cases x with
  | tmp t =>
    simp only [resC, Option.map_some, Option.some.injEq, List.cons.injEq, and_true] at hc
    subst hc
    cases he
    exact ⟨_, by simp [resOne], hE.rep t⟩
  | cell t T =>
    simp only [resC] at hc
    split at hc <;> first | (cases hc; done) | skip
    rename_i ag n l' h1 h2 h3
    cases h3
    simp only [Option.some.injEq, List.cons.injEq, and_true] at hc
    subst hc
    simp only [oneR] at he
    have hr := hE.rep t
    revert hr he
    generalize env t = c
    intro he hr
    cases c <;> first | (simp [eLoad] at he; done) | skip
    · simp only [eLoad] at he
      obtain ⟨b, hb, hv⟩ := hr
      split at he
      · rename_i id off _ ty row hs
        obtain ⟨val, k1, k2⟩ := run_loadRow (K := K) (agOf_run h1) (fun _ => szOf_run h2) (lies_box hI (off := off) hb hs) he
        exact ⟨val, by simp [resOne, hv, asAddr, k1], k2⟩
      · cases he
    · simp only [eLoad] at he
      obtain ⟨b, o, hv, hrow⟩ := hr
      obtain ⟨val, k1, k2⟩ := run_loadRow (K := K) (agOf_run h1) (fun _ => szOf_run h2) (lies_ro hI _ b o hrow) he
      exact ⟨val, by simp [resOne, hv, asAddr, k1], k2⟩

theorem resC_cons {x : ResultVar} {r : List ResultVar} {ls : List LR} (h : resC K.P (x :: r) = some ls) : ∃ l ls', ls = l :: ls' ∧ resC K.P [x] = some [l] ∧ resC K.P r = some ls' := by
  cases x with
  | tmp t =>
    simp only [resC, Option.map_eq_some_iff] at h
    obtain ⟨ls', h1, rfl⟩ := h
    exact ⟨_, ls', rfl, rfl, h1⟩
  | cell a T =>
    simp only [resC] at h
    split at h <;> first | (cases h; done) | skip
    rename_i ag n l' h1 h2 h3
    cases h
    exact ⟨_, l', rfl, by simp [resC, h1, h2], h3⟩

theorem all_ok (hI : Inv K G σ w) {N : Nat} {env : Env} {a : Act} (hE : EnvOK G Fx N env a) : ∀ {xs : List ResultVar} {ls : List LR}, resC K.P xs = some ls → ∀ {vs : List AV}, allR σ env ls = some vs →
    ∃ vals, (xs.mapM (resOne a.tmps)).run K.P w = .ok vals w ∧ RepL G vs vals
  | [], ls, h, vs, he => by cases h; cases he; exact ⟨[], by simp, rfl⟩
  | x :: r, ls, h, vs, he => by
    obtain ⟨l, ls', rfl, h1, h2⟩ := resC_cons h
    simp only [allR] at he
    split at he <;> first | (cases he; done) | skip
    rename_i v vs' k1 k2
    cases he
    obtain ⟨val, m1, m2⟩ := one_ok hI hE h1 k1
    obtain ⟨vals, m3, m4⟩ := all_ok hI hE h2 k2
    exact ⟨val :: vals, by simp [List.mapM_cons, m1, m3], val, vals, rfl, m2, m4⟩

theorem retR_all {σ : Store} {env : Env} {rs : List LR} {v : AV} (h : retR σ env rs = some v) : (∃ l, rs = [l] ∧ oneR σ env l = some v) ∨ (rs.length ≠ 1 ∧ ∃ vs, allR σ env rs = some vs ∧ v = .tup vs) := by
  match rs, h with
  | [], h => simp only [retR, Option.map_eq_some_iff] at h; obtain ⟨vs, h1, h2⟩ := h; exact .inr ⟨by simp, vs, h1, h2.symm⟩
  | [l], h => exact .inl ⟨l, rfl, h⟩
  | l :: l' :: r, h => simp only [retR, Option.map_eq_some_iff] at h; obtain ⟨vs, h1, h2⟩ := h; exact .inr ⟨by simp, vs, h1, h2.symm⟩

theorem ret_ok (hI : Inv K G σ w) {N : Nat} {env : Env} {a : Act} (hE : EnvOK G Fx N env a) {fn : Func} {ls : List LR} (hc : resC K.P fn.results.toList = some ls) {v : AV} (he : retR σ env ls = some v) :
    ∃ val, (results fn a.tmps).run K.P w = .ok val w ∧ Rep G v val := by
  have hm : results fn a.tmps = (do let vs ← fn.results.mapM (resOne a.tmps); pure (if h : vs.size = 1 then vs[0] else .tuple vs)) := by
    unfold results
    congr 1
  rw [hm]
  have hlen : ∀ {xs : List ResultVar} {ls : List LR}, resC K.P xs = some ls → ls.length = xs.length := fun {xs} => by
    induction xs with
    | nil => intro ls h; cases h; rfl
    | cons x r ih =>
      intro ls h
      obtain ⟨l, ls', rfl, _, h2⟩ := resC_cons h
      simp [ih h2]
  rcases retR_all he with ⟨l, rfl, h1⟩ | ⟨h0, vs, h1, rfl⟩
  · have hl := hlen hc
    obtain ⟨x, hx⟩ : ∃ x, fn.results.toList = [x] := by
      match fn.results.toList, hl with
      | [x], _ => exact ⟨x, rfl⟩
    have hx' := arr1 hx
    rw [hx] at hc
    obtain ⟨val, k1, k2⟩ := one_ok hI hE hc h1
    refine ⟨val, ?_, k2⟩
    rw [hx']
    simp [Array.mapM_eq_mapM_toList, k1]
  · obtain ⟨vals, k1, k2⟩ := all_ok hI hE hc h1
    have hne : vals.length ≠ 1 := by rw [← k2.length]; intro e; exact h0 (by
      have hl2 : ∀ {ls : List LR} {vs : List AV}, allR σ env ls = some vs → vs.length = ls.length := fun {ls} => by
        induction ls with
        | nil => intro vs h; cases h; rfl
        | cons l r ih =>
          intro vs h
          simp only [allR] at h
          split at h <;> first | (cases h; done) | skip
          rename_i a b c d
          cases h
          simp [ih d]
      rw [← hl2 h1]; exact e)
    refine ⟨.tuple vals.toArray, ?_, vals.toArray, rfl, by simpa using k2⟩
    simp [Array.mapM_eq_mapM_toList, k1, hne]

/-! ### functions -/
structure FuncOK (P : Program) (f : Nat) (fc : FC) : Prop where
  ok : ∃ fn body X, P.funcs[f]? = some fn ∧ (fn.name == "runtime.NumGoroutine") = false ∧ fn.body = some body ∧ X.P = P ∧ X.N = fn.ntmps ∧ X.f = f ∧ X.rnd = false ∧ resC P fn.results.toList = some X.rs ∧
    fc.entry = comp X 1 body (.ret X.rs) [] ∧ ∀ e ∈ labs X 1 body (.ret X.rs) [], fc.labs e.1 = some (X.live e.1, e.2)

structure SysOK (K : Cfg) (A : AP) : Prop where
  gl : A.gl = K.gl
  pure : ∀ k, (K.gl k).pure = true
  mixed : K.P.follows .mixedOrders = true
  funcs : ∀ f fc, A.codes f = some fc → FuncOK K.P f fc
  rng : ∀ fn p lv ps assign body sz, K.rng fn p lv ps assign body sz ↔ RngOK K.P A fn p lv ps assign body sz
  ext : ∀ f args σ v σ' G W vals, A.codes f = none → A.ext f args σ = some (v, σ') → Inv K G σ W → RepL G args vals.toList → CallGood K G W f vals v σ'

theorem args_ok {args : List AV} {vals : Array Value} {k : Nat} {Fx : Nat → Prop} (h : RepL G args vals.toList) : EnvOK G Fx k (envArgs args) { tmps := vals ++ Array.replicate (k - vals.size) undef, defers := [] } := by
  refine ⟨by simp; omega, fun t => ?_, [], rfl, List.nodup_nil, fun D hD => by cases hD⟩
  have hl := h.length
  simp only [Array.length_toList] at hl
  unfold envArgs
  rcases Nat.lt_or_ge t args.length with ht | ht
  · obtain ⟨v, hv, hr⟩ := h.get t args[t] (List.getElem?_eq_getElem ht)
    have h1 : args.getD t (.tup []) = args[t] := by rw [List.getD_eq_getElem?_getD, List.getElem?_eq_getElem ht]; rfl
    have h2 : (vals ++ Array.replicate (k - vals.size) undef).getD t undef = v := by
      rw [Array.getD_eq_getD_getElem?, Array.getElem?_append_left (by omega)]
      simp only [Array.getElem?_toList] at hv
      rw [hv]; rfl
    rw [h1, h2]; exact hr
  · have h1 : args.getD t (.tup []) = .tup [] := by rw [List.getD_eq_getElem?_getD, List.getElem?_eq_none ht]; rfl
    have h2 : (vals ++ Array.replicate (k - vals.size) undef).getD t undef = undef := by
      rw [Array.getD_eq_getD_getElem?, Array.getElem?_append_right (by omega), Array.getElem?_replicate]
      split <;> rfl
    rw [h1, h2]; exact ⟨#[], rfl, rfl⟩

/-! ### a function is left -/
def Ghost.withFx (G : Ghost) (fx : Nat → Prop) : Ghost := { G with fx := fx }

theorem Ghost.withFx_ext (G : Ghost) (fx : Nat → Prop) : ExtV G (G.withFx fx) := ⟨fun _ _ _ _ h => h, fun _ g h => ⟨g, h, .refl g⟩⟩

theorem ObjOK.withFx {g : GO} {a : AO} {fx : Nat → Prop} (h : ObjOK K G w g a) : ObjOK K (G.withFx fx) w g a := by
  have hx := G.withFx_ext fx
  cases g <;> cases a <;> simp only [ObjOK] at h ⊢ <;> try exact h
  · obtain ⟨h1, vs, h2, h3, h4⟩ := h; exact ⟨h1, vs, h2, RepL.monoV hx h3, h4⟩
  · obtain ⟨h1, es, cl, h2, h3⟩ := h; exact ⟨h1, es, cl, h2, h3.monoV hx⟩
  · obtain ⟨h1, r, h2, h3⟩ := h; exact ⟨h1, r, h2, h3.monoV hx⟩

/-- a block for deferred calls is shut -/
theorem Inv.shut (h : Inv K G σ w) {fx : Nat → Prop} (hfx : ∀ x, fx x → G.fx x) {D : Nat} (hD : G.fx D) (hD2 : ¬ fx D) : Inv K (G.withFx fx) σ (w.putObj D (.deferred none)) := by
  obtain ⟨d1, d2, d3⟩ := h.fx D hD
  have hx := G.withFx_ext fx
  have hh : ∀ k, k ≠ D → (w.putObj D (.deferred none)).heap[k]? = w.heap[k]? := fun k hk => World.putObj_heap_other hk
  exact {
    len := h.len
    below := h.below.trans ⟨rfl, rfl, rfl, by simp, fun k hk => hh k (by omega)⟩
    base := by simpa using h.base
    ro := fun b o v c hr => by
      obtain ⟨k1, k2, k3⟩ := h.ro b o v c hr
      refine ⟨?_, Rep.monoV hx k2, k3⟩
      by_cases hb : b = D
      · subst hb; simp [World.cell?, d2] at k1
      · rw [World.cell?_of_block (w := w) (hh b hb)]; exact k1
    obj := fun i g a hg ha => ((h.obj i g a hg ha).withFx (fx := fx)).world fun x hxo => hh x fun e => d3 i g hg (e ▸ hxo)
    sep := h.sep
    hid := h.hid
    gl := fun n => Rep.monoV hx (h.gl n)
    fx := fun x hxx => by
      obtain ⟨k1, k2, k3⟩ := h.fx x (hfx x hxx)
      exact ⟨k1, by rw [hh x fun e => hD2 (e ▸ hxx)]; exact k2, k3⟩ }

theorem Inv.fewer (h : Inv K G σ w) {fx : Nat → Prop} (hfx : ∀ x, fx x → G.fx x) : Inv K (G.withFx fx) σ w := by
  have hx := G.withFx_ext fx
  exact {
    len := h.len
    below := h.below
    base := h.base
    ro := fun b o v c hr => by obtain ⟨k1, k2, k3⟩ := h.ro b o v c hr; exact ⟨k1, Rep.monoV hx k2, k3⟩
    obj := fun i g a hg ha => (h.obj i g a hg ha).withFx
    sep := h.sep
    hid := h.hid
    gl := fun n => Rep.monoV hx (h.gl n)
    fx := fun x hxx => h.fx x (hfx x hxx) }

theorem leave_marks {fn : Func} {tmps : Array Value} {R : Ending → World → Prop} {n : Nat} : ∀ (Ds : List Nat) (G : Ghost) (w : World), Inv K G σ w → Ds.Nodup → (∀ D ∈ Ds, G.fx D) →
    (∀ w' fx, (∀ x, fx x ↔ G.fx x ∧ x ∉ Ds) → Inv K (G.withFx fx) σ w' → ∃ v, (results fn tmps).run K.P w' = .ok v w' ∧ R (.returned v) w') →
    LeavesInM Fence.wide n K.P fn tmps R (Ds.map fun D => { target := .collected D, args := #[] }) .returning w
  | [], G, w, hI, _, _, h => by
    show LeavesIn Fence.wide n K.P fn tmps R [] .returning w
    exact h w G.fx (fun x => by simp) (hI.fewer fun _ h => h)
  | D :: Ds, G, w, hI, hnd, hfx, h => by
    rw [List.nodup_cons] at hnd
    have hD := hfx D (List.mem_cons_self ..)
    obtain ⟨_, d2, _⟩ := hI.fx D hD
    refine ⟨by simp, .inl ⟨D, _, rfl, run_takeDeferred d2, ?_⟩⟩
    refine leave_marks Ds (G.withFx fun x => G.fx x ∧ x ≠ D) _ (hI.shut (fun x hx => hx.1) hD (fun hx => hx.2 rfl)) hnd.2 (fun D' hD' => ⟨hfx D' (List.mem_cons_of_mem _ hD'), fun e => hnd.1 (e ▸ hD')⟩) fun w' fx hf hI' => ?_
    exact h w' fx (fun x => by rw [hf x]; simp only [Ghost.withFx, List.mem_cons, not_or]; exact and_assoc) hI'

/-! ### a round -/
theorem fold_other : ∀ {l : List (Nat × Value)} {tmps : Array Value} {t : Nat}, (∀ p ∈ l, p.1 ≠ t) → (l.foldl (fun (tmps : Array Value) (p : Nat × Value) => tmps.setIfInBounds p.1 p.2) tmps).getD t undef = tmps.getD t undef
  | [], _, _, _ => rfl
  | p :: l, tmps, t, h => by
    rw [List.foldl_cons, fold_other fun q hq => h q (List.mem_cons_of_mem _ hq)]
    rw [Array.getD_eq_getD_getElem?, Array.getD_eq_getD_getElem?, Array.getElem?_setIfInBounds_ne (h p (List.mem_cons_self ..))]

theorem fold_size : ∀ {l : List (Nat × Value)} {tmps : Array Value}, (l.foldl (fun (tmps : Array Value) (p : Nat × Value) => tmps.setIfInBounds p.1 p.2) tmps).size = tmps.size
  | [], _ => rfl
  | p :: l, tmps => by rw [List.foldl_cons, fold_size]; simp

theorem caps_env : ∀ {lv : List Nat} {caps : List AV} {tmps : Array Value}, CapRep G lv caps tmps → ∀ t, Rep G (envOf lv caps t) (tmps.getD t undef)
  | [], caps, tmps, h, t => by rw [show caps = [] from h]; trivial
  | s :: lv, _, tmps, ⟨c, r, e, h1, h2⟩, t => by
    subst e
    simp only [envOf]
    by_cases hs : t = s
    · subst hs; rw [upd_same]; exact h1
    · rw [upd_ne _ _ hs]; exact caps_env h2 t

theorem round_env {lv : List Nat} {caps : List AV} : ∀ {ps : List Nat} {args : List AV} {vals : List Value} {tmps : Array Value}, ps.Nodup → (∀ t ∈ ps, t < tmps.size) → RepL G args vals → ps.length = args.length →
    ∀ t, (t ∉ ps → Rep G (envOf lv caps t) (tmps.getD t undef)) → Rep G (envOf (ps ++ lv) (args ++ caps) t) (((ps.zip vals).foldl (fun (tmps : Array Value) (p : Nat × Value) => tmps.setIfInBounds p.1 p.2) tmps).getD t undef)
  | [], args, vals, tmps, _, _, hr, hl, t, ht => by
    have : args = [] := List.length_eq_zero_iff.1 (by simpa using hl.symm)
    subst this
    simpa using ht (by simp)
  | p :: ps, args, vals, tmps, hnd, hb, hr, hl, t, ht => by
    rw [List.nodup_cons] at hnd
    cases args with
    | nil => simp at hl
    | cons c args =>
      obtain ⟨v, vals', rfl, h1, h2⟩ := hr
      simp only [List.cons_append, envOf, List.zip_cons_cons, List.foldl_cons]
      by_cases hp : t = p
      · subst hp
        rw [upd_same, fold_other (t := t) fun q hq e => hnd.1 (by rw [← e]; exact (List.of_mem_zip hq).1)]
        rw [Array.getD_eq_getD_getElem?, Array.getElem?_setIfInBounds_self_of_lt (hb t (List.mem_cons_self ..))]
        exact h1
      · rw [upd_ne _ _ hp]
        refine round_env hnd.2 (fun t ht => by simpa using hb t (List.mem_cons_of_mem _ ht)) h2 (by simpa using hl) t fun htp => ?_
        rw [Array.getD_eq_getD_getElem?, Array.getElem?_setIfInBounds_ne (fun e => hp e.symm), ← Array.getD_eq_getD_getElem?]
        exact ht fun hm => (List.mem_cons.1 hm).elim hp htp

theorem roundPost_normal {l : Nat} {R : Ending → World → Prop} {a : Act} {w : World} : roundPost K.P l R .normal a w = ∃ v w', (Instr.endRound l none).run K.P w = .ok v w' ∧ R (.returned v) w' := rfl

theorem yield_ok {A : AP} (hS : SysOK K A) {m : Nat} (ih : ∀ k, k ≤ m → CallSound K (sem A k).1) {id : Nat} {args : List AV} {v : AV} {σ' : Store} {W : World} {vals : Array Value} {b : Nat}
    (hy : yieldR (sem A m).2 id args σ = some (v, σ')) (hI : Inv K G σ W) (hr : RepL G args vals.toList) (hb : G.obj[id]? = some (.loop b)) : YieldGood K G W b vals v σ' := by
  unfold yieldR at hy
  split at hy <;> first | (cases hy; done) | skip
  rename_i la hla
  obtain ⟨hbb, r, hheap, hok⟩ := loop_at hI hb hla
  cases hnp : Nat.beq args.length la.np with
  | false => rw [hnp] at hy; cases hy
  | true =>
  rw [hnp] at hy
  simp only [cond_true] at hy
  have hlen : args.length = la.np := Nat.eq_of_beq_eq_true hnp
  have hvl := hr.length
  simp only [Array.length_toList] at hvl
  have hsz : vals.size = r.params.size := by rw [hok.np]; omega
  obtain ⟨fc, X, f1, f2, f3, f4, f5, f6, f7, f8, f9, f10, f11⟩ := (hS.rng _ _ _ _ _ _ _).1 hok.rng
  refine ⟨_, _, _, _, run_yield hheap hsz, fun n => roundIn_of_wpIn trivial ?_⟩
  -- the assignment
  unfold yMid at hy
  split at hy <;> first | (cases hy; done) | skip
  rename_i vs σ1 hass
  split at hy <;> first | (cases hy; done) | skip
  rename_i la1 hla1
  cases hst : (la1.st == LoopState.ready) with
  | false => rw [hst] at hy; cases hy
  | true =>
  rw [hst] at hy
  simp only [cond_true] at hy
  cases m with
  | zero => cases hass
  | succ m =>
  rw [sem] at hass
  simp only [f1, f6] at hass
  have hx0 : ∀ l, some b = some l → ∃ id : Nat, G.obj[id]? = some (GO.loop l) := fun l hl => ⟨id, by cases hl; exact hb⟩
  have hRng : ∀ fn p lv ps assign body sz, RngOK K.P A fn p lv ps assign body sz → K.rng fn p lv ps assign body sz := fun fn p lv ps assign body sz h => (hS.rng _ _ _ _ _ _ _).2 h
  have hfold : ∀ {tmps : Array Value}, (r.params.zip vals).foldl (fun tmps (t, a) => tmps.setIfInBounds t a) tmps = (r.params.toList.zip vals.toList).foldl (fun (tmps : Array Value) (p : Nat × Value) => tmps.setIfInBounds p.1 p.2) tmps := fun {tmps} => by
    rw [← Array.foldl_toList, Array.toList_zip]
  have hE0 : EnvOK G G.fx X.N (envOf (r.params.toList ++ la.lv) (args ++ la.caps)) { tmps := (r.params.zip vals).foldl (fun tmps (t, a) => tmps.setIfInBounds t a) r.tmps, defers := [] } := by
    refine ⟨?_, fun t => ?_, [], rfl, List.nodup_nil, fun D hD => by cases hD⟩
    · simp only [hfold, fold_size]; exact f5
    · simp only [hfold]
      exact round_env f10 (fun t ht => Nat.lt_of_lt_of_le (f11 t ht) f5) hr (by simp; omega) t fun _ => caps_env hok.caps t
  refine wpIn_mono (code_ok (n := n) (ro := some b) (X := X) hS.mixed f2 f3 hS.gl f1 (fun k hk => ih k (by omega)) hRng hx0 r.assign _ _ [] f8 m (Nat.le_refl m) _ _ (r := (.tup vs, σ1))
    ⟨G, _, σ, Ext.refl G, hI, hE0, by rw [← hS.gl]; exact hass⟩) fun e a₁ w₁ hq => ?_
  have nojump : ∀ {k' j a w}, RunsK K A la.fn X.N G k' (.rnd j) (.tup vs, σ1) a w → False := fun ⟨_, _, _, _, _, _, hh⟩ => by cases hh
  cases e with
  | exit i =>
    obtain ⟨k', _, h'⟩ := hq
    rw [show lookK X.rnd [] i = .rnd (i + 2) by simp [lookK, f4]] at h'
    exact (nojump h').elim
  | ret =>
    obtain ⟨k', _, h'⟩ := hq
    rw [show retTC X = .rnd 1 by simp [retTC, f4]] at h'
    exact (nojump h').elim
  | goto _ => exact hq.elim
  | panic _ => exact hq.elim
  | outgrown => exact hq.elim
  | normal =>
  obtain ⟨k', _, G2, env2, σ2, x2, hI2, hE2, hout⟩ := hq
  simp only [run, Option.some.injEq, Prod.mk.injEq, AV.tup.injEq] at hout
  obtain ⟨rfl, rfl⟩ := hout
  -- the round begins
  have hb2 := x2.loop hb
  obtain ⟨hbb2, r1, hheap1, hok1⟩ := loop_at hI2 hb2 hla1
  have hready : r1.state = .ready := by rw [hok1.st]; simpa using hst
  refine ⟨_, run_beginRound hheap1 hready, ?_⟩
  have hI3 := setLoop (la' := { la1 with st := .busy }) (r' := { r1 with state := .busy }) hI2 hb2 hbb2 hheap1 ⟨rfl, hok1.pend, hok1.rng, hok1.np, hok1.caps⟩
  unfold yEnd at hy
  split at hy <;> first | (cases hy; done) | skip
  rename_i jn σ3 hbody
  split at hy <;> first | (cases hy; done) | skip
  rename_i la3 hla3
  rw [sem] at hbody
  simp only [f1, f7] at hbody
  have hE3 : EnvOK G2 G.fx X.N (envOf (X.live (2 * la.p + 1)) ((X.live (2 * la.p + 1)).map env2)) a₁ := by
    refine ⟨hE2.size, fun t => ?_, hE2.defers⟩
    rcases envOf_get (X.live (2 * la.p + 1)) env2 t with h | h
    · rw [h]; exact hE2.rep t
    · rw [h]; trivial
  refine wpIn_mono (code_ok (n := n) (ro := some b) (X := X) hS.mixed f2 f3 hS.gl f1 (fun k hk => ih k (by omega)) hRng hx0 r.body _ _ [] f9 m (Nat.le_refl m) _ _ (r := (.int .i64 jn, σ3))
    ⟨G2, _, _, x2, hI3, hE3, by rw [← hS.gl]; exact hbody⟩) fun e a₃ w₃ hq => ?_
  have fin : ∀ {k' j a w} {c : Option Code}, RunsK K A la.fn X.N G k' (.rnd j) (.int .i64 jn, σ3) a w → pendOf j c → ∃ v' w', (Instr.endRound b c).run K.P w = .ok v' w' ∧ PostV K G v σ' v' w' := fun {k' j a w c} ⟨G3, _, σ4, x3, hI4, _, hh⟩ hp => by
    simp only [run, Option.some.injEq, Prod.mk.injEq, AV.int.injEq, true_and] at hh
    obtain ⟨hj, rfl⟩ := hh
    have hb3 := x3.loop hb
    obtain ⟨hbb3, r3, hheap3, hok3⟩ := loop_at hI4 hb3 hla3
    have hjn : jn.toNat = j := by rw [← hj]; rfl
    simp only [Option.some.injEq, Prod.mk.injEq] at hy
    obtain ⟨hv, hs⟩ := hy
    rw [hjn] at hv hs
    have hnone : c.isNone = Nat.beq j 0 := by
      match j, hp with
      | 0, hp => rw [show c = none from hp]; rfl
      | 1, hp => rw [show c = some .ret from hp]; rfl
      | n + 2, hp => rw [show c = some (.exit n) from hp]; rfl
    have hset := setLoop (la' := { la3 with st := cond (Nat.beq j 0) .ready .done, pend := j }) (r' := { r3 with state := if c.isNone then .ready else .done, pending := c }) hI4 hb3 hbb3 hheap3
      ⟨by simp only [hnone]; cases Nat.beq j 0 <;> rfl, hp, hok3.rng, hok3.np, hok3.caps⟩
    refine ⟨_, _, run_endRound c hheap3, G3, x3, ?_, ?_⟩
    · rw [← hv, hnone]; rfl
    · rw [← hs]; exact hset
  cases e with
  | normal =>
    obtain ⟨k', _, h'⟩ := hq
    obtain ⟨v', w', e1, e2⟩ := fin h' (c := none) rfl
    exact ⟨v', w', e1, v', rfl, e2⟩
  | ret =>
    obtain ⟨k', _, h'⟩ := hq
    rw [show retTC X = .rnd 1 by simp [retTC, f4]] at h'
    obtain ⟨v', w', e1, e2⟩ := fin h' (c := some .ret) rfl
    exact ⟨v', w', e1, v', rfl, e2⟩
  | exit i =>
    obtain ⟨k', _, h'⟩ := hq
    rw [show lookK X.rnd [] i = .rnd (i + 2) by simp [lookK, f4]] at h'
    obtain ⟨v', w', e1, e2⟩ := fin h' (c := some (.exit i)) rfl
    exact ⟨v', w', e1, v', rfl, e2⟩
  | goto _ => exact hq.elim
  | panic _ => exact hq.elim
  | outgrown => exact hq.elim

theorem func_ok {A : AP} (hS : SysOK K A) {m : Nat} (ih : ∀ k, k ≤ m → CallSound K (sem A k).1) {f : Nat} {fc : FC} (hf : A.codes f = some fc) {args : List AV} {v : AV} {σ' : Store} {W : World} {vals : Array Value}
    (hc : finR fc.pol σ (run (sem A m).1 ((sem A m).2 f) A.gl fc.entry (envArgs (inA fc.pol args)) σ) = some (v, σ')) (hI : Inv K G σ W) (hr : RepL G args vals.toList) :
    CallGood K G W f vals v σ' ∧ (callFunc f vals).run K.P W = .ok (.enter f vals) W := by
  obtain ⟨fn, body, X, h1, h2, h3, h4, h5, hXf, hXr, h6, h7, h8⟩ := (hS.funcs f fc hf).ok
  cases hrun : run (sem A m).1 ((sem A m).2 f) A.gl fc.entry (envArgs (inA fc.pol args)) σ with
  | none => rw [hrun] at hc; cases hc
  | some q =>
    rw [hrun] at hc
    simp only [finR, Option.some.injEq] at hc
    have hcall : (callFunc f vals).run K.P W = .ok (.enter f vals) W := by
      have h2' : ¬ fn.name = "runtime.NumGoroutine" := by simpa using h2
      simp [callFunc, h1, h2', h3]
    refine ⟨?_, hcall⟩
    unfold CallGood
    rw [hcall]
    intro n'
    refine callsIn_of_wp_marks h1 h3 trivial ?_
    -- the arguments, perhaps weakened
    obtain ⟨G1, x1, r1, i1⟩ : ∃ G1, Ext G G1 ∧ RepL G1 (inA fc.pol args) vals.toList ∧ Inv K G1 σ W := by
      unfold inA
      cases fc.pol.args with
      | true => exact ⟨G, Ext.refl G, hr, hI⟩
      | false => exact ⟨G.wk, G.wk_ext, by rw [cond_false, ← weakL_map]; exact RepL.weak hr, hI.weak⟩
    have hRng : ∀ fn p lv ps assign body sz, RngOK K.P A fn p lv ps assign body sz → K.rng fn p lv ps assign body sz := fun fn p lv ps assign body sz h => (hS.rng _ _ _ _ _ _ _).2 h
    have hstart : RunsK K A f X.N G m (comp X 1 body (.ret X.rs) []) q { tmps := vals ++ Array.replicate (fn.ntmps - vals.size) undef, defers := [] } W :=
      ⟨G1, _, σ, x1, i1, by rw [h5]; exact args_ok r1, by rw [← h7, ← hS.gl]; exact hrun⟩
    refine wpIn_mono (code_ok (n := n') (ro := none) hS.mixed h4 hXf hS.gl hf (fun k hk => ih k hk) hRng (fun l hl => by cases hl) body 1 (.ret X.rs) [] h8 m (Nat.le_refl m) _ _ hstart) fun e a w hq => ?_
    have fin : (∃ k', k' ≤ m ∧ RunsK K A f X.N G k' (.ret X.rs) q a w) → LeavesInM Fence.wide n' K.P fn a.tmps (fun e W'' => ∃ val, e = .returned val ∧ PostV K G v σ' val W'') a.defers .returning w := by
      rintro ⟨k', _, G2, env, σ2, x2, i2, e2, hr2⟩
      simp only [run] at hr2
      cases hret : retR σ2 env X.rs with
      | none => rw [hret] at hr2; cases hr2
      | some v2 =>
        rw [hret] at hr2
        simp only [ret, Option.some.injEq] at hr2
        obtain ⟨Ds, d1, d2, d3⟩ := e2.defers
        rw [d1]
        refine leave_marks Ds G2 w i2 d2 (fun D hD => (d3 D hD).1) fun w' fx hfx i3 => ?_
        have hxv := G2.withFx_ext fx
        have e3 : EnvOK (G2.withFx fx) G.fx X.N env { a with defers := [] } := ⟨e2.size, fun t => Rep.monoV hxv (e2.rep t), [], rfl, List.nodup_nil, fun D hD => by cases hD⟩
        have x3 : Ext G (G2.withFx fx) := ⟨x2.ro, x2.obj, fun D hD => (hfx D).2 ⟨x2.fx D hD, fun hm => (d3 D hm).2 hD⟩⟩
        obtain ⟨val, k1, k2⟩ := ret_ok i3 e3 h6 hret
        refine ⟨val, k1, val, rfl, ?_⟩
        subst hr2
        obtain ⟨G3, x4, r3, i4⟩ := out_ok hS.pure fc.pol hI x3 k2 i3
        rw [hc] at r3 i4
        exact ⟨G3, x4, r3, i4⟩
    cases e with
    | normal => exact fin hq
    | ret =>
      obtain ⟨k', hk', h'⟩ := hq
      rw [show retTC X = .ret X.rs by simp [retTC, hXr]] at h'
      exact fin ⟨k', hk', h'⟩
    | exit i =>
      obtain ⟨k', _, h'⟩ := hq
      rw [show lookK X.rnd [] i = .bad by simp [lookK, hXr]] at h'
      obtain ⟨_, _, _, _, _, _, hb⟩ := h'; cases hb
    | _ => exact hq.elim

theorem sem_ok {A : AP} (hS : SysOK K A) : ∀ n, CallSound K (sem A n).1 := by
  intro n
  induction n using Nat.strongRecOn with
  | _ n ih =>
    intro f args σ v σ' G W vals hc hI hr
    cases n with
    | zero => cases hc
    | succ m =>
      have ih' : ∀ k, k ≤ m → CallSound K (sem A k).1 := fun k hk => ih k (by omega)
      rw [sem] at hc
      simp only at hc
      refine ⟨fun hb => ?_, fun id b hf hid hob => ?_, fun g hf hg => ?_⟩
      · rw [hb] at hc
        simp only [cond_true] at hc
        split at hc
        · rename_i fc hf
          exact (func_ok hS ih' hf hc hI hr).1
        · rename_i hf
          exact hS.ext f args σ v σ' G W vals hf hc hI hr
      · subst hf
        have hid := Nat.le_of_ble_eq_true hid
        rw [blt_false (Nat.le_add_right yb id), blt_true (by omega : yb + id < yb + yb)] at hc
        simp only [cond_false, cond_true, show yb + id - yb = id by omega] at hc
        exact yield_ok hS ih' hc hI hr hob
      · subst hf
        rw [blt_false (by omega : yb ≤ yb + yb + g), blt_false (by omega : yb + yb ≤ yb + yb + g)] at hc
        simp only [cond_false, show yb + yb + g - (yb + yb) = g by omega] at hc
        split at hc
        · rename_i fc hf
          exact func_ok hS ih' hf hc hI hr
        · cases hc

theorem CALL_ok {A : AP} (hS : SysOK K A) {f : Nat} {args : List AV} {σ : Store} {v : AV} {σ' : Store} {G : Ghost} {W : World} {vals : Array Value} (hc : CALL A f args σ = some (v, σ')) (hb : Nat.blt f yb = true)
    (hI : Inv K G σ W) (hr : RepL G args vals.toList) : CallGood K G W f vals v σ' := by
  obtain ⟨n, hn⟩ := (CALL_iff ..).1 hc
  exact (sem_ok hS n f args σ v σ' G W vals hn hI hr).1 hb

end
end Go.Av
