/- (*strings.Builder).String and copyCheck, exactly; the evaluator's view of them. -/
import Derived.Test.YtfmonjbhfocjbaaGreatDoorAvX
import Derived.Shelf.Strings.BuilderF
set_option linter.unusedVariables false
namespace Go.Av
open Go Go.RowKit Go.Shelf Go.Proofs
section
variable {P : Program} {ρ : Ren}

set_option maxHeartbeats 1000000 in
set_option maxRecDepth 100000 in
theorem string_row (L : Lays.n169 P ρ) (X : Builder.Extra P ρ) (b g cap : Nat) (l : List UInt8) (cur : Array Value) (fz : Nat × Nat) (w : World) (h0 : l ≠ []) (c0 : w.cell? ⟨b, 1, none⟩ = some (.slice (some ⟨g, 0, none⟩) l.length cap))
    (hg : w.heap[g]? = some (.cells cur (ρ.t 5) fz)) (hnc : l.length ≤ cap) (hcm : cap ≤ maxLen) (hcs : cur.size = cap) (hcell : ∀ (j : Nat) x, l[j]? = some x → w.cell? ⟨g, j, none⟩ = some (.int .u8 x.toNat)) :
    Calls P (ρ.f 169) #[.pointer (some ⟨b, 0, none⟩)] w fun e w' => e = .returned (.string ⟨l.toArray⟩) ∧ w' = w.drew.freeze ⟨g, 0, none⟩ l.length := by
  have hl0 : l.length ≠ 0 := by simpa using h0
  have c1 : w.drew.cell? ⟨b, 1, none⟩ = some (.slice (some ⟨g, 0, none⟩) l.length cap) := c0
  have hSD : (Builtin.unsafeSliceData_ #[(ρ.t 37)] (ρ.t 127) #[.slice (some ⟨g, 0, none⟩) l.length cap]).run P w.drew = .ok (.pointer (some ⟨g, 0, none⟩)) w.drew :=
    Lib.run_unsafeSliceData_row _ _ _ _ _ _ (by omega)
  have hUS : (Builtin.unsafeString_ #[(ρ.t 127), (ρ.t 3)] (ρ.t 9) #[.pointer (some ⟨g, 0, none⟩), .int .i64 l.length]).run P w.drew = .ok (.string ⟨l.toArray⟩) (w.drew.freeze ⟨g, 0, none⟩ l.length) := by
    refine Lib.run_unsafeString_row w.drew (ρ.t 127) (ρ.t 3) (ρ.t 9) (ρ.t 5) L.t127 X.cellsByte g cur.size (by have hg' : w.drew.heap[g]? = some (.cells cur (ρ.t 5) fz) := hg; simp [World.shape?, hg']) l h0 (by omega) (by unfold maxLen at hcm; omega) ?_
    intro j x hx
    rw [add_eq, Nat.zero_add]
    exact hcell j x hx
  have mixed := L.mixed
  have t72 := L.t72; have a72 := L.a72; have z72 := L.z72; have v72 := L.v72; have u72 := run_underlying L.t72
  have t70 := L.t70; have a70 := L.a70; have z70 := L.z70; have v70 := L.v70; have u70 := run_underlying L.t70
  have t37 := L.t37; have a37 := L.a37; have z37 := L.z37; have v37 := L.v37; have u37 := run_underlying L.t37
  have t127 := L.t127; have a127 := L.a127; have z127 := L.z127; have v127 := L.v127; have u127 := run_underlying L.t127
  have t3 := L.t3; have a3 := L.a3; have z3 := L.z3; have v3 := L.v3; have u3 := run_underlying L.t3
  have t9 := L.t9; have a9 := L.a9; have z9 := L.z9; have v9 := L.v9; have u9 := run_underlying L.t9
  have t5 := X.t5; have a5 := X.a5; have z5 := X.z5; have v5 := X.v5; have u5 := run_underlying X.t5
  go_enter L.f169, Body.n169_ntmps ρ
  go_wp2
  go_region_o
  all_goals (go_wp2; go_ret; exact ⟨rfl, rfl⟩)

set_option maxHeartbeats 1000000 in
set_option maxRecDepth 100000 in
theorem string_nil (L : Lays.n169 P ρ) (X : Builder.Extra P ρ) (b : Nat) (w : World) (c0 : w.cell? ⟨b, 1, none⟩ = some (.slice none 0 0)) :
    Calls P (ρ.f 169) #[.pointer (some ⟨b, 0, none⟩)] w fun e w' => e = .returned (.string ⟨#[]⟩) ∧ w' = w.drew := by
  have hUS := Any.unsafeString_none L X
  have c1 : w.drew.cell? ⟨b, 1, none⟩ = some (.slice none 0 0) := c0
  have hSD : (Builtin.unsafeSliceData_ #[(ρ.t 37)] (ρ.t 127) #[.slice none 0 0]).run P w.drew = .ok (.pointer none) w.drew := rfl
  have mixed := L.mixed
  have t72 := L.t72; have a72 := L.a72; have z72 := L.z72; have v72 := L.v72; have u72 := run_underlying L.t72
  have t70 := L.t70; have a70 := L.a70; have z70 := L.z70; have v70 := L.v70; have u70 := run_underlying L.t70
  have t37 := L.t37; have a37 := L.a37; have z37 := L.z37; have v37 := L.v37; have u37 := run_underlying L.t37
  have t127 := L.t127; have a127 := L.a127; have z127 := L.z127; have v127 := L.v127; have u127 := run_underlying L.t127
  have t3 := L.t3; have a3 := L.a3; have z3 := L.z3; have v3 := L.v3; have u3 := run_underlying L.t3
  have t9 := L.t9; have a9 := L.a9; have z9 := L.z9; have v9 := L.v9; have u9 := run_underlying L.t9
  have t5 := X.t5; have a5 := X.a5; have z5 := X.z5; have v5 := X.v5; have u5 := run_underlying X.t5
  go_enter L.f169, Body.n169_ntmps ρ
  go_wp2
  go_region_o
  all_goals (go_wp2; go_ret; exact ⟨rfl, rfl⟩)
end

/-! ### as the evaluator sees them -/
section
variable {K : Cfg} {G : Ghost} {σ : Store} {W : World} {f : FuncId} {vals : Array Value}

def u8s : List AV → Option (List UInt8)
  | [] => some []
  | .int .u8 n :: r => match u8s r with
    | some l => cond (decide (0 ≤ n) && decide (n < 256)) (some (n.toNat.toUInt8 :: l)) none
    | none => none
  | _ => none

theorem u8s_spec : ∀ {els : List AV} {l : List UInt8}, u8s els = some l → els = l.map fun x => .int .u8 x.toNat
  | [], l, h => by simp [u8s] at h; subst h; rfl
  | c :: r, l, h => by
    unfold u8s at h
    split at h <;> first | (cases h; done) | skip
    · rename_i e; cases e
    rename_i n r' e
    cases e
    split at h <;> first | (cases h; done) | skip
    rename_i l' hl
    cases hb : (decide (0 ≤ n) && decide (n < 256)) with
    | false => rw [hb] at h; cases h
    | true =>
      rw [hb] at h
      simp only [cond_true, Option.some.injEq] at h
      subst h
      simp only [Bool.and_eq_true, decide_eq_true_eq] at hb
      rw [u8s_spec hl]
      simp only [List.map_cons, List.cons.injEq, and_true]
      have : (n.toNat.toUInt8).toNat = n.toNat := by simp; omega
      rw [this]; congr 1; omega

def xCopyCheck (oks : List (TypeId × Nat)) : List AV → Store → Res
  | [.ptr id 0], σ => match σ[id]? with
    | some (.box ty (a :: row)) => (match a with
      | .nilp => cond (oks.contains (ty, row.length + 1)) (some (.tup [], σ.set id (.box ty (.ptr id 0 :: row)))) none
      | .ptr id' 0 => cond (Nat.beq id' id) (some (.tup [], σ)) none
      | _ => none)
    | _ => none
  | _, _ => none

def xString (u8 : TypeId) : List AV → Store → Res
  | [.ptr id 0], σ => match σ[id]? with
    | some (.box ty (_ :: .sl .nil _ [] :: row)) => some (.str ⟨#[]⟩, σ)
    | some (.box ty (_ :: .sl (.tok t) 1 els :: row)) => match σ[t]?, u8s els with
      | some (.tok ty' top), some l => cond (Nat.beq ty' u8 && Nat.beq top els.length && !l.isEmpty) (some (.str (bs l), σ)) none
      | _, _ => none
    | _ => none
  | _, _ => none

theorem xCopyCheck_good (he : Enters K.P f) {oks : List (TypeId × Nat)}
    (hu : ∀ (b : Nat), W.cell? ⟨b, 0, none⟩ = some (.pointer (some ⟨b, 0, none⟩)) → Calls K.P f #[.pointer (some ⟨b, 0, none⟩)] W fun e w' => e = .returned (.tuple #[]) ∧ w' = W)
    (hf : ∀ (b n : Nat) (ty : TypeId), (ty, n) ∈ oks → W.cell? ⟨b, 0, none⟩ = some (.pointer none) → W.shape? b = some (ty, n) → W.frozen? ⟨b, 0, none⟩ = false →
      Calls K.P f #[.pointer (some ⟨b, 0, none⟩)] W fun e w' => e = .returned (.tuple #[]) ∧ w' = W.setCell ⟨b, 0, none⟩ (.pointer (some ⟨b, 0, none⟩)))
    {args : List AV} {v : AV} {σ' : Store} (hx : xCopyCheck oks args σ = some (v, σ')) (hI : Inv K G σ W) (hr : RepL G args vals.toList) : CallGood K G W f vals v σ' := by
  unfold xCopyCheck at hx
  split at hx <;> first | (cases hx; done) | skip
  rename_i id
  split at hx <;> first | (cases hx; done) | skip
  rename_i ty a row hs
  obtain ⟨v1, rfl, b, hb, rfl⟩ := vals1 hr
  have hok := hI.obj id _ _ hb hs
  obtain ⟨hB, vs, hvs, hrow, hflat⟩ := hok
  obtain ⟨v0, r, hvr, h0, hrr⟩ := hrow
  have hc0 : W.cell? ⟨b, 0, none⟩ = some v0 := by
    rw [Lib.cell_of_heap hvs]
    rw [← Array.getElem?_toList, hvr]; rfl
  split at hx <;> first | (cases hx; done) | skip
  · cases hk : oks.contains (ty, row.length + 1) with
    | false => rw [hk] at hx; cases hx
    | true =>
      rw [hk] at hx
      simp only [cond_true, Option.some.injEq, Prod.mk.injEq] at hx
      obtain ⟨rfl, rfl⟩ := hx
      have h0' : v0 = .pointer none := h0
      subst h0'
      have hsz : vs.size = row.length + 1 := by rw [← Array.length_toList, hvr]; simp [hrr.length]
      refine good_of he ((hf b (row.length + 1) ty (by simpa using hk) hc0 (by simp [World.shape?, hvs, hsz]) (by simp [World.frozen?, hvs])).mono ?_)
      rintro e w' ⟨rfl, rfl⟩
      refine ⟨_, rfl, G, Ext.refl G, ⟨#[], rfl, rfl⟩, ?_⟩
      have hheap : (W.setCell ⟨b, 0, none⟩ (.pointer (some ⟨b, 0, none⟩))).heap[b]? = some (.cells (vs.setIfInBounds 0 (.pointer (some ⟨b, 0, none⟩))) ty (0, 0)) := by
        simp [World.setCell, Array.getElem?_modify, hvs]
      refine hI.setObj hb (fun k hk hn => ?_) rfl rfl rfl (by simp [World.setCell]) (fun b' o v c hro ho => ?_) ?_
      · simp only [World.setCell, Array.getElem?_modify]
        rw [if_neg (fun e => hn e.symm)]
      · exact absurd hro (hI.hid id _ hb b' o v c ho)
      · refine ⟨hB, _, hheap, ?_, ?_⟩
        · have : (vs.setIfInBounds 0 (.pointer (some ⟨b, 0, none⟩))).toList = .pointer (some ⟨b, 0, none⟩) :: r := by
            rw [Array.toList_setIfInBounds, hvr]; rfl
          rw [this]
          exact ⟨_, _, rfl, ⟨b, hb, rfl⟩, hrr⟩
        · intro c hc
          rcases List.mem_cons.1 hc with rfl | hc
          · rfl
          · exact hflat c (by simp [hc])
  · rename_i id'
    cases hk : Nat.beq id' id with
    | false => rw [hk] at hx; cases hx
    | true =>
      rw [hk] at hx
      simp only [cond_true, Option.some.injEq, Prod.mk.injEq] at hx
      obtain ⟨rfl, rfl⟩ := hx
      have := Nat.eq_of_beq_eq_true hk
      subst this
      obtain ⟨b', hb', rfl⟩ := h0
      rw [hb] at hb'
      cases hb'
      exact good_same he (hu b hc0) hI ⟨#[], rfl, rfl⟩

theorem xString_good (he : Enters K.P f) {u8 : TypeId}
    (hn : ∀ (b : Nat), W.cell? ⟨b, 1, none⟩ = some (.slice none 0 0) → Calls K.P f #[.pointer (some ⟨b, 0, none⟩)] W fun e w' => e = .returned (.string ⟨#[]⟩) ∧ w' = W.drew)
    (hf : ∀ (b g cap : Nat) (l : List UInt8) (cur : Array Value) (fz : Nat × Nat), l ≠ [] → W.cell? ⟨b, 1, none⟩ = some (.slice (some ⟨g, 0, none⟩) l.length cap) → W.heap[g]? = some (.cells cur u8 fz) → l.length ≤ cap → cap ≤ maxLen →
      cur.size = cap → (∀ (j : Nat) x, l[j]? = some x → W.cell? ⟨g, j, none⟩ = some (.int .u8 x.toNat)) →
      Calls K.P f #[.pointer (some ⟨b, 0, none⟩)] W fun e w' => e = .returned (.string ⟨l.toArray⟩) ∧ w' = W.drew.freeze ⟨g, 0, none⟩ l.length)
    {args : List AV} {v : AV} {σ' : Store} (hx : xString u8 args σ = some (v, σ')) (hI : Inv K G σ W) (hr : RepL G args vals.toList) : CallGood K G W f vals v σ' := by
  unfold xString at hx
  split at hx <;> first | (cases hx; done) | skip
  rename_i id
  obtain ⟨v1, rfl, b, hb, rfl⟩ := vals1 hr
  split at hx <;> first | (cases hx; done) | skip
  · rename_i ty a es row hs
    cases hx
    obtain ⟨hB, vs, hvs, hrow, hflat⟩ := hI.obj id _ _ hb hs
    obtain ⟨v0, r, hvr, h0, u, r', rfl, ⟨ao, len, cap, rfl, hsl⟩, hrr⟩ := hrow
    have hao : ao = none := hsl.hown
    subst hao
    have hc0 := hsl.hnil rfl
    have hl0 := hsl.hlen
    simp only [List.length_nil] at hl0
    subst hc0; subst hl0
    have hc1 : W.cell? ⟨b, 1, none⟩ = some (.slice none 0 0) := by
      rw [Lib.cell_of_heap hvs, ← Array.getElem?_toList, hvr]; rfl
    refine good_of he ((hn b hc1).mono ?_)
    rintro e w' ⟨rfl, rfl⟩
    exact ⟨_, rfl, G, Ext.refl G, rfl, hI.keep (Below.refl _ W).drew⟩
  · rename_i ty a t els row hs
    split at hx <;> first | (cases hx; done) | skip
    rename_i ty' top l hst hl
    cases hk : (Nat.beq ty' u8 && Nat.beq top els.length && !l.isEmpty) with
    | false => rw [hk] at hx; cases hx
    | true =>
      rw [hk] at hx
      simp only [cond_true, Option.some.injEq, Prod.mk.injEq] at hx
      obtain ⟨rfl, rfl⟩ := hx
      simp only [Bool.and_eq_true, Bool.not_eq_true', List.isEmpty_eq_false_iff] at hk
      obtain ⟨⟨k1, k2⟩, hne⟩ := hk
      have k1 := Nat.eq_of_beq_eq_true k1
      have k2 := Nat.eq_of_beq_eq_true k2
      subst k1
      obtain ⟨hB, vs, hvs, hrow, hflat⟩ := hI.obj id _ _ hb hs
      obtain ⟨v0, r, hvr, h0, u, r', rfl, ⟨ao, len, cap, rfl, hsl⟩, hrr⟩ := hrow
      obtain ⟨g, c, top', hgt, hle, heq⟩ := hsl.hown
      have hokt := hI.obj t _ _ hgt hst
      obtain ⟨hBg, htt, htc, hcm, cur, fz, hcur, hcs, hfz⟩ := hokt
      have htt' := htt.symm
      subst htt'
      have hlen := hsl.hlen
      obtain ⟨rfl, rfl⟩ := heq (by omega)
      have hels := u8s_spec hl
      have hll : els.length = l.length := by rw [hels]; simp
      have hc1 : W.cell? ⟨b, 1, none⟩ = some (.slice (some ⟨g, 0, none⟩) l.length cap) := by
        rw [Lib.cell_of_heap hvs, ← Array.getElem?_toList, hvr, ← hll, ← hlen]; rfl
      have hcells : ∀ (j : Nat) x, l[j]? = some x → W.cell? ⟨g, j, none⟩ = some (.int .u8 x.toNat) := fun j x hj => by
        obtain ⟨u, h1, h2⟩ := sl_cells hI hsl rfl j (.int .u8 x.toNat) (by rw [hels, List.getElem?_map, hj]; rfl) rfl
        rw [show u = _ from h2] at h1
        simpa using h1
      refine good_of he ((hf b g cap l cur fz hne hc1 hcur (by omega) hcm (by omega) hcells).mono ?_)
      rintro e w' ⟨rfl, rfl⟩
      refine ⟨_, rfl, G, Ext.refl G, rfl, ?_⟩
      have hl0 : l.length ≠ 0 := by simpa using hne
      have hsetself : σ.set t (.tok ty' top) = σ := by
        apply List.ext_getElem?
        intro j
        rw [List.getElem?_set]
        by_cases e : t = j
        · subst e; rw [if_pos rfl, hst]; simp [(List.getElem?_eq_some_iff.1 hst).1]
        · rw [if_neg e]
      have hfr : ∀ x, (W.drew.freeze ⟨g, 0, none⟩ l.length).heap[x]? = if g = x then some (.cells cur ty' (if fz.1 == fz.2 then (0, 0 + l.length) else (min fz.1 0, max fz.2 (0 + l.length)))) else W.heap[x]? := fun x => by
        unfold World.freeze
        rw [if_neg hl0]
        simp only [Array.getElem?_modify]
        by_cases e : g = x
        · subst e
          rw [if_pos rfl, if_pos rfl]
          show Option.map _ (W.heap[g]?) = _
          rw [hcur]
          rfl
        · rw [if_neg e, if_neg e]; rfl
      have := hI.setObj (a := .tok ty' top) (w' := W.drew.freeze ⟨g, 0, none⟩ l.length) hgt (fun k hk hnk => ?_) (by unfold World.freeze; rw [if_neg hl0]; rfl) (by unfold World.freeze; rw [if_neg hl0]; rfl) (by unfold World.freeze; rw [if_neg hl0]; rfl)
        (by unfold World.freeze; rw [if_neg hl0]; show W.heap.size ≤ (W.heap.modify g _).size; rw [Array.size_modify]; exact Nat.le_refl _) (fun b' o v c hro ho => ?_) ?_
      · rw [hsetself] at this; exact this
      · rw [hfr, if_neg (fun e => hnk e.symm)]
      · have hb' : b' = g := ho
        subst hb'
        have h1 := (hI.ro _ _ _ _ hro).1
        rw [Lib.cell_of_heap hcur] at h1
        rw [Lib.cell_of_heap (by rw [hfr, if_pos rfl])]
        exact h1
      · refine ⟨hBg, rfl, htc, hcm, cur, _, by rw [hfr, if_pos rfl], hcs, ?_⟩
        simp only [Nat.mul_one] at hfz ⊢
        split <;> simp only [Nat.zero_add] <;> omega
end
end Go.Av
