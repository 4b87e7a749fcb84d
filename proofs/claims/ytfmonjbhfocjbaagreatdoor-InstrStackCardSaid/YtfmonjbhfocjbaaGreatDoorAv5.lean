/- Fields, indexes, pieces of slices and strings. -/
import Derived.Test.YtfmonjbhfocjbaaGreatDoorAv4
namespace Go.Av
open Go Go.RowKit

section
variable {K : Cfg} {G : Ghost} {σ : Store} {w : World}

/-! ### addresses within a variable -/
def eFoff (off : Nat) : AV → Option AV
  | .ptr id o => some (.ptr id (o + off))
  | .rp row => some (.rp (row.drop off))
  | _ => none

theorem RoRow.drop {b o : Nat} {row : List AV} (h : RoRow G b o row) (n : Nat) : RoRow G b (o + n) (row.drop n) := fun k c hc => by
  rw [List.getElem?_drop] at hc
  obtain ⟨v, hv⟩ := h (n + k) c hc
  exact ⟨v, by rw [Nat.add_assoc]; exact hv⟩

/-- the place of a field, as the program's tables have it: its offset, its cells, whether it is a struct or an array -/
def fldOf (P : Program) (T : TypeId) (j : Nat) : Option (Nat × Nat × Bool) :=
  match P.underlying T with
  | some (.struct fs) => match fs[j]? with
    | some f => match szOf P f.type, agOf P f.type with
      | some n, some a => some (f.offset, n, a)
      | _, _ => none
    | none => none
  | _ => none

theorem fldOf_spec {P : Program} {T : TypeId} {j off n : Nat} {a : Bool} (h : fldOf P T j = some (off, n, a)) :
    ∃ fs f, P.underlying T = some (.struct fs) ∧ fs[j]? = some f ∧ f.offset = off ∧ szOf P f.type = some n ∧ agOf P f.type = some a := by
  unfold fldOf at h
  split at h
  · rename_i fs hu
    split at h
    · rename_i f hf
      split at h
      · rename_i n' a' h1 h2
        simp only [Option.some.injEq, Prod.mk.injEq] at h
        obtain ⟨rfl, rfl, rfl⟩ := h
        exact ⟨fs, f, hu, hf, rfl, h1, h2⟩
      · cases h
    · cases h
  · cases h

theorem foff_ok (h : Inv K G σ w) {T : TypeId} {j off n : Nat} {a : Bool} (hf : fldOf K.P T j = some (off, n, a)) (hn : n ≠ 0) {x v : AV} {vx : Value} (hx : Rep G x vx)
    (he : eFoff off x = some v) : SemOK K G w (Instr.fieldAt T vx j) v σ := by
  obtain ⟨fs, f, h1, h2, h3, h4, h5⟩ := fldOf_spec hf
  have hsz := szOf_run h4
  have key : ∀ b o, (Instr.fieldAt T (.pointer (some ⟨b, o, none⟩)) j).run K.P w = .ok (.pointer (some ⟨b, o + off, none⟩)) w := by
    intro b o
    simp [Instr.fieldAt, run_underlying h1, h2, Instr.sureAddr, fieldPlace, hsz, hn, add_eq, h3]
  cases x <;> first | (simp [eFoff] at he; done) | skip
  · simp only [eFoff, Option.some.injEq] at he
    subst he
    obtain ⟨b, hb, rfl⟩ := hx
    exact SemOK.pure' h (key _ _) ⟨b, hb, rfl⟩
  · simp only [eFoff, Option.some.injEq] at he
    subst he
    obtain ⟨b, o, rfl, hr⟩ := hx
    exact SemOK.pure' h (key _ _) ⟨b, o + off, rfl, hr.drop off⟩

/-- the part of a struct or array value -/
theorem part_ok {T : TypeId} {n : Nat} {a : Bool} (hn : szOf K.P T = some n) (ha : agOf K.P T = some a) {cs : List AV} {vs : Array Value} (hr : RepL G cs vs.toList) {off : Nat} {v : AV}
    (he : loadRow a n (cs.drop off) = some v) : ∃ val, (part T vs off).run K.P w = .ok val w ∧ Rep G v val := by
  unfold part
  simp only [Sem.run_bind, agOf_run ha, Result.andThen_ok]
  cases a with
  | true =>
    simp only [loadRow] at he
    split at he
    · cases he
      simp only [if_true, Sem.run_bind, szOf_run hn, Result.andThen_ok, Sem.run_pure]
      refine ⟨_, rfl, _, rfl, ?_⟩
      have h1 := (hr.drop off).take n
      simpa [Array.toList_extract, List.extract_eq_take_drop] using h1
    · cases he
  | false =>
    simp only [loadRow] at he
    cases hd : cs.drop off with
    | nil => simp [hd] at he
    | cons c r =>
      simp only [hd, Option.some.injEq] at he
      subst he
      have hc : cs[off]? = some c := by
        have := List.getElem?_drop (xs := cs) (i := off) (j := 0)
        rw [hd] at this; simpa using this.symm
      obtain ⟨u, hu, hru⟩ := hr.get off c hc
      have hu' : vs[off]? = some u := by simpa using hu
      simp only [Bool.false_eq_true, if_false, hu']
      exact ⟨u, rfl, hru⟩

def eFld (ag : Bool) (off n : Nat) : AV → Option AV
  | .agg cs => loadRow ag n (cs.drop off)
  | _ => none

theorem fld_ok (h : Inv K G σ w) {T : TypeId} {j off n : Nat} {a : Bool} (hf : fldOf K.P T j = some (off, n, a)) {x v : AV} {vx : Value} (hx : Rep G x vx)
    (he : eFld a off n x = some v) : SemOK K G w (Instr.field T vx j) v σ := by
  obtain ⟨fs, f, h1, h2, h3, h4, h5⟩ := fldOf_spec hf
  cases x <;> first | (simp [eFld] at he; done) | skip
  obtain ⟨vs, rfl, hr⟩ := hx
  obtain ⟨val, k1, k2⟩ := part_ok (w := w) h4 h5 hr he
  refine SemOK.pure' h ?_ k2
  simp [Instr.field, run_underlying h1, h2, asAgg, h3, k1]

/-! ### indexes -/
def eIdx (es : Nat) (x i : AV) : Option AV :=
  match x, i with
  | .sl _ es' els, .int _ n => if es = es' ∧ 0 ≤ n then
      match els[n.toNat]? with
      | some el => some (.rp el.cells)
      | none => none
    else none
  | .sa id off len _ es', .int _ n => if es = es' ∧ 0 ≤ n ∧ n < len then some (.ptr id (off + n.toNat * es)) else none
  | _, _ => none

theorem idx_ok (h : Inv K G σ w) {T e : TypeId} {es : Nat} (hT : K.P.underlying T = some (.slice e)) (hes : szOf K.P e = some es) {x i v : AV} {vx vi : Value} (hx : Rep G x vx) (hi : Rep G i vi)
    (he : eIdx es x i = some v) : SemOK K G w (Instr.indexAt T vx vi) v σ := by
  have key : ∀ (b o len cap : Nat) (k : IntKind) (n : Int), 0 ≤ n → n < len → (Instr.indexAt T (.slice (some ⟨b, o, none⟩) len cap) (.int k n)).run K.P w = .ok (.pointer (some ⟨b, o + n.toNat * es, none⟩)) w := by
    intro b o len cap k n h0 h1
    simp [Instr.indexAt, run_underlying hT, asIntOf, h0, h1, szOf_run hes, add_eq]
  cases x <;> cases i <;> first | (simp [eIdx] at he; done) | skip
  case sl.int o es' els k n =>
    simp only [eIdx] at he
    split at he
    · rename_i hc
      obtain ⟨rfl, h0⟩ := hc
      split at he
      · rename_i el hel
        cases he
        obtain ⟨a, len, cap, rfl, hs⟩ := hx
        rw [show vi = .int k n from hi]
        have hlt : n.toNat < els.length := (List.getElem?_eq_some_iff.1 hel).1
        have hl := hs.hlen
        have hcap := hs.hcap
        cases a with
        | none => have := hs.hnil rfl; omega
        | some ad =>
          have hsp := hs.hspot ad rfl (by omega)
          obtain ⟨b, of, sp⟩ := ad
          simp only at hsp
          subst hsp
          have hrow := hs.hrow _ rfl n.toNat el hel
          exact SemOK.pure' h (key b of len cap k n h0 (by omega)) ⟨b, _, rfl, hrow⟩
      · cases he
    · cases he
  case sa.int id off len cap es' k n =>
    simp only [eIdx] at he
    split at he
    · rename_i hc
      obtain ⟨rfl, h0, h1⟩ := hc
      cases he
      obtain ⟨b, hb, rfl⟩ := hx
      rw [show vi = .int k n from hi]
      exact SemOK.pure' h (key b off len cap k n h0 h1) ⟨b, hb, rfl⟩
    · cases he

/-- an array's variable -/
def eIdxa (len es : Nat) (x i : AV) : Option AV :=
  match x, i with
  | .ptr id off, .int _ n => if 0 ≤ n ∧ n < len then some (.ptr id (off + n.toNat * es)) else none
  | .rp row, .int _ n => if 0 ≤ n ∧ n < len then some (.rp (row.drop (n.toNat * es))) else none
  | _, _ => none

theorem idxa_ok (h : Inv K G σ w) {T e : TypeId} {len es : Nat} (hT : K.P.underlying T = some (.array len e)) (hes : szOf K.P e = some es) {x i v : AV} {vx vi : Value} (hx : Rep G x vx) (hi : Rep G i vi)
    (he : eIdxa len es x i = some v) : SemOK K G w (Instr.indexAt T vx vi) v σ := by
  have key : ∀ (b o : Nat) (k : IntKind) (n : Int), 0 ≤ n → n < len → (Instr.indexAt T (.pointer (some ⟨b, o, none⟩)) (.int k n)).run K.P w = .ok (.pointer (some ⟨b, o + n.toNat * es, none⟩)) w := by
    intro b o k n h0 h1
    simp [Instr.indexAt, run_underlying hT, asIntOf, Instr.sureAddr, h0, h1, szOf_run hes, add_eq]
  cases x <;> cases i <;> first | (simp [eIdxa] at he; done) | skip
  case ptr.int id off k n =>
    simp only [eIdxa] at he
    split at he
    · rename_i hc
      cases he
      obtain ⟨b, hb, rfl⟩ := hx
      rw [show vi = .int k n from hi]
      exact SemOK.pure' h (key b off k n hc.1 hc.2) ⟨b, hb, rfl⟩
    · cases he
  case rp.int row k n =>
    simp only [eIdxa] at he
    split at he
    · rename_i hc
      cases he
      obtain ⟨b, o, rfl, hr⟩ := hx
      rw [show vi = .int k n from hi]
      exact SemOK.pure' h (key b o k n hc.1 hc.2) ⟨b, _, rfl, hr.drop _⟩
    · cases he

/-- an array's value -/
def eIdxv (ag : Bool) (len es : Nat) (x i : AV) : Option AV :=
  match x, i with
  | .agg cs, .int _ n => if 0 ≤ n ∧ n < len then loadRow ag es (cs.drop (n.toNat * es)) else none
  | _, _ => none

theorem idxv_ok (h : Inv K G σ w) {T e : TypeId} {len es : Nat} {ag : Bool} (hT : K.P.underlying T = some (.array len e)) (hes : szOf K.P e = some es) (hag : agOf K.P e = some ag) {x i v : AV} {vx vi : Value}
    (hx : Rep G x vx) (hi : Rep G i vi) (he : eIdxv ag len es x i = some v) : SemOK K G w (Instr.index T vx vi) v σ := by
  cases x <;> cases i <;> first | (simp [eIdxv] at he; done) | skip
  case agg.int cs k n =>
    simp only [eIdxv] at he
    split at he
    · rename_i hc
      obtain ⟨vs, rfl, hr⟩ := hx
      rw [show vi = .int k n from hi]
      obtain ⟨val, k1, k2⟩ := part_ok (w := w) hes hag hr he
      refine SemOK.pure' h ?_ k2
      simp [Instr.index, run_underlying hT, asIntOf, hc, szOf_run hes, k1]
    · cases he

/-! ### pieces of strings -/
def eSls (x : AV) (lo hi : Option AV) : Option AV :=
  match x, lo, hi with
  | .str s, none, none => some (.str (s.extract 0 s.size))
  | .str s, some (.int _ i), none => if 0 ≤ i ∧ i ≤ s.size then some (.str (s.extract i.toNat s.size)) else none
  | .str s, none, some (.int _ j) => if 0 ≤ j ∧ j ≤ s.size then some (.str (s.extract 0 j.toNat)) else none
  | .str s, some (.int _ i), some (.int _ j) => if 0 ≤ i ∧ i ≤ j ∧ j ≤ s.size then some (.str (s.extract i.toNat j.toNat)) else none
  | _, _, _ => none

def RepO (G : Ghost) : Option AV → Option Value → Prop
  | none, v => v = none
  | some c, v => ∃ u, v = some u ∧ Rep G c u

theorem sls_ok (h : Inv K G σ w) {T : TypeId} (hT : K.P.underlying T = some .string) {x v : AV} {lo hi : Option AV} {vx : Value} {vlo vhi : Option Value} (hx : Rep G x vx) (hlo : RepO G lo vlo) (hhi : RepO G hi vhi)
    (he : eSls x lo hi = some v) : SemOK K G w (Instr.sliceAt T vx vlo vhi none) v σ := by
  unfold eSls at he
  split at he
  · cases he
    rw [show vx = .string _ from hx, show vlo = none from hlo, show vhi = none from hhi]
    refine SemOK.pure' h ?_ rfl
    rw [run_sliceAt_string w T _ _ _ _ hT]
    simp [Instr.slice, Instr.sliceBounds, run_underlying hT]
  · split at he
    · rename_i hc
      cases he
      obtain ⟨u, rfl, hu⟩ := hlo
      rw [show vx = .string _ from hx, show u = .int _ _ from hu, show vhi = none from hhi]
      refine SemOK.pure' h ?_ rfl
      rw [run_sliceAt_string w T _ _ _ _ hT, run_slice_string_from_if w T _ _ _ hT, if_pos hc]
    · cases he
  · split at he
    · rename_i hc
      cases he
      obtain ⟨u, rfl, hu⟩ := hhi
      rw [show vx = .string _ from hx, show u = .int _ _ from hu, show vlo = none from hlo]
      refine SemOK.pure' h ?_ rfl
      rw [run_sliceAt_string w T _ _ _ _ hT, run_slice_string_to_if w T _ _ _ hT, if_pos hc]
    · cases he
  · split at he
    · rename_i hc
      cases he
      obtain ⟨u, rfl, hu⟩ := hlo
      obtain ⟨u', rfl, hu'⟩ := hhi
      rw [show vx = .string _ from hx, show u = .int _ _ from hu, show u' = .int _ _ from hu']
      refine SemOK.pure' h ?_ rfl
      rw [run_sliceAt_string w T _ _ _ _ hT, run_slice_string w T _ _ _ _ _ hT hc.1 hc.2.1 hc.2.2]
    · cases he
  · cases he

/-! ### pieces of slices -/
def bnd (d : Nat) : Option AV → Option Nat
  | none => some d
  | some (.int _ n) => if 0 ≤ n then some n.toNat else none
  | _ => none

def bndV (d : Nat) : Option Value → Option Nat
  | none => some d
  | some (.int _ n) => if 0 ≤ n then some n.toNat else none
  | _ => none

theorem bnd_rep {d n : Nat} {o : Option AV} {v : Option Value} (h : RepO G o v) (hb : bnd d o = some n) : bndV d v = some n := by
  cases o with
  | none => rw [show v = none from h]; exact hb
  | some c =>
    obtain ⟨u, rfl, hu⟩ := h
    cases c <;> first | (simp [bnd] at hb; done) | skip
    rw [show u = .int _ _ from hu]; exact hb

/-- the bounds of a slice expression, where they fit -/
theorem run_bounds (P : Program) (w : World) {isSl : Bool} {len cap l h m : Nat} {lo hi mx : Option Value} (hl : bndV 0 lo = some l) (hh : bndV len hi = some h) (hm : bndV cap mx = some m)
    (h1 : l ≤ h) (h2 : h ≤ m) (h3 : m ≤ cap) (h4 : mx.isSome = true → hi.isSome = true) (h5 : hi = none → len = h) :
    (Instr.sliceBounds isSl len cap lo hi mx).run P w = .ok (l, h, m) w := by
  have key : ∀ {d n y : Nat} {v : Value} {c : BoundsCode}, bndV d (some v) = some n → n ≤ y → (Instr.sliceBound v y c).run P w = .ok n w := by
    intro d n y v c hb hy
    cases v <;> simp only [bndV] at hb <;> first | (cases hb; done) | skip
    split at hb
    · rename_i h0
      cases hb
      exact run_sliceBound w _ _ y c h0 (by omega)
    · cases hb
  unfold Instr.sliceBounds
  cases mx with
  | none =>
    simp only [bndV, Option.some.injEq] at hm
    subst hm
    cases hi with
    | none =>
      have := h5 rfl
      subst this
      cases lo with
      | none => simp only [bndV, Option.some.injEq] at hl; subst hl; simp
      | some v => simp [key hl h1]
    | some u =>
      cases lo with
      | none => simp only [bndV, Option.some.injEq] at hl; subst hl; simp [key hh h2]
      | some v => simp [key hh h2, key hl h1]
  | some x =>
    cases hi with
    | none => simp at h4
    | some u =>
      cases lo with
      | none => simp only [bndV, Option.some.injEq] at hl; subst hl; simp [key hm h3, key hh h2]
      | some v => simp [key hm h3, key hh h2, key hl h1]

/-- low, high, max of a slice that is read as a list: the end may not lie behind its length -/
def eSll (es : Nat) (x : AV) (lo hi mx : Option AV) : Option AV :=
  match x with
  | .sl o es' els =>
    match bnd 0 lo, bnd els.length hi with
    | some l, some h =>
      if es = es' ∧ l ≤ h ∧ h ≤ els.length then
        match mx with
        | none => some (.sl (if l = 0 ∧ h = els.length then o else .any) es' ((els.take h).drop l))
        | some (.int _ m) => if hi.isSome = true ∧ m = (h : Int) then some (.sl .full es' ((els.take h).drop l)) else none
        | _ => none
      else none
    | _, _ => none
  | _ => none

theorem RepO.isSome {o : Option AV} {v : Option Value} (h : RepO G o v) : v.isSome = o.isSome := by
  cases o with
  | none => rw [show v = none from h]; rfl
  | some c => obtain ⟨u, rfl, _⟩ := h; rfl

theorem slice_part {o : Own} {es : Nat} {els : List AV} {a : Option Addr} {len cap : Nat} (hs : SliceRep G o es els a len cap) {l h m : Nat} (h1 : l ≤ h) (h2 : h ≤ els.length) (h3 : h ≤ m) (h4 : m ≤ cap) {o' : Own}
    (ho : OwnRep G o' (if m = l then a else a.map (·.add (l * es))) (h - l) (m - l) es) :
    SliceRep G o' es ((els.take h).drop l) (if m = l then a else a.map (·.add (l * es))) (h - l) (m - l) where
  hlen := by simp; omega
  hcap := by omega
  hnil := fun e => by
    have : a = none := by
      split at e
      · exact e
      · cases a <;> simp_all
    have := hs.hnil this; omega
  hes := fun i el hel => by
    rw [List.getElem?_drop, List.getElem?_take] at hel
    split at hel
    · exact hs.hes _ el hel
    · cases hel
  hspot := fun x hx h0 => by
    split at hx
    · exact hs.hspot x hx (by omega)
    · cases a with
      | none => cases hx
      | some ad =>
        have hsp := hs.hspot ad rfl (by omega)
        simp only [Option.map_some, Option.some.injEq] at hx
        subst hx
        obtain ⟨b, of, sp⟩ := ad
        simp only at hsp; subst hsp
        rw [add_eq]
  hrow := fun x hx i el hel => by
    rw [List.getElem?_drop, List.getElem?_take] at hel
    split at hel
    · rename_i hlt
      split at hx
      · rename_i hml; omega
      · cases a with
        | none => cases hx
        | some ad =>
          have hsp := hs.hspot ad rfl (by omega)
          have hr := hs.hrow ad rfl _ el hel
          simp only [Option.map_some, Option.some.injEq] at hx
          subst hx
          obtain ⟨b, of, sp⟩ := ad
          simp only at hsp; subst hsp
          rw [add_eq]
          simp only at hr ⊢
          rw [show of + l * es + i * es = of + (l + i) * es by rw [Nat.add_mul]; omega]
          exact hr
    · cases hel
  hown := ho

theorem sll_ok (h : Inv K G σ w) {T e : TypeId} {es : Nat} (hT : K.P.underlying T = some (.slice e)) (hes : szOf K.P e = some es) {x v : AV} {lo hi mx : Option AV} {vx : Value} {vlo vhi vmx : Option Value}
    (hx : Rep G x vx) (hlo : RepO G lo vlo) (hhi : RepO G hi vhi) (hmx : RepO G mx vmx)
    (he : eSll es x lo hi mx = some v) : SemOK K G w (Instr.sliceAt T vx vlo vhi vmx) v σ := by
  cases x <;> first | (simp [eSll] at he; done) | skip
  rename_i o es' els
  simp only [eSll] at he
  obtain ⟨a, len, cap, rfl, hs⟩ := hx
  cases hl : bnd 0 lo with
  | none => simp [hl] at he
  | some l =>
    cases hh : bnd els.length hi with
    | none => simp [hl, hh] at he
    | some hh' =>
      simp only [hl, hh] at he
      split at he
      · rename_i hc
        obtain ⟨rfl, h1, h2⟩ := hc
        have hlen := hs.hlen
        have hcap := hs.hcap
        have bl := bnd_rep hlo hl
        have bh := bnd_rep hhi hh
        have run : ∀ m, bndV cap vmx = some m → hh' ≤ m → m ≤ cap → (vmx.isSome = true → vhi.isSome = true) →
            (Instr.sliceAt T (.slice a len cap) vlo vhi vmx).run K.P w = .ok (.slice (if m = l then a else a.map (·.add (l * es))) (hh' - l) (m - l)) w := by
          intro m b1 b2 b3 b4
          have hb := run_bounds K.P w (isSl := true) (len := len) (cap := cap) bl (by rw [hlen]; exact bh) b1 h1 b2 b3 b4 (fun e => by rw [e] at bh; simp only [bndV, Option.some.injEq] at bh; omega)
          simp [Instr.sliceAt, Instr.slice, run_underlying hT, hb, szOf_run hes]
        split at he
        · cases he
          have hmn : vmx = none := hmx
          subst hmn
          have r := run cap rfl (by omega) (Nat.le_refl _) (by simp)
          refine SemOK.pure' h r ⟨_, _, _, rfl, slice_part hs h1 h2 (by omega) (Nat.le_refl _) ?_⟩
          split
          · rename_i hz
            obtain ⟨rfl, hz⟩ := hz
            have e1 : (if cap = 0 then a else a.map (·.add (0 * es))) = a := by
              split
              · rfl
              · cases a with
                | none => rfl
                | some ad => simp [Addr.add_zero']
            rw [e1]
            have := hs.hown
            rw [show hh' - 0 = len by omega, Nat.sub_zero]
            exact this
          · trivial
        · split at he
          · rename_i k m hc
            cases he
            obtain ⟨hc1, rfl⟩ := hc
            obtain ⟨u, rfl, hu⟩ := hmx
            rw [show u = .int k _ from hu] at run ⊢
            have r := run hh' (by simp [bndV]) (Nat.le_refl _) (by omega) (fun _ => by rw [hhi.isSome]; exact hc1)
            exact SemOK.pure' h r ⟨_, _, _, rfl, slice_part hs h1 h2 (Nat.le_refl _) (by omega) rfl⟩
          · cases he
        · cases he
      · cases he

/-- a piece of an array's variable -/
def eSla (n es : Nat) (x : AV) (lo hi : Option AV) : Option AV :=
  match x with
  | .ptr id off =>
    match bnd 0 lo, bnd n hi with
    | some l, some h => if l ≤ h ∧ h ≤ n then some (.sa id (if n = l then off else off + l * es) (h - l) (n - l) es) else none
    | _, _ => none
  | _ => none

theorem sla_ok (h : Inv K G σ w) {T e : TypeId} {n es : Nat} (hT : K.P.underlying T = some (.array n e)) (hes : szOf K.P e = some es) {x v : AV} {lo hi : Option AV} {vx : Value} {vlo vhi : Option Value}
    (hx : Rep G x vx) (hlo : RepO G lo vlo) (hhi : RepO G hi vhi)
    (he : eSla n es x lo hi = some v) : SemOK K G w (Instr.sliceAt T vx vlo vhi none) v σ := by
  cases x <;> first | (simp [eSla] at he; done) | skip
  rename_i id off
  simp only [eSla] at he
  obtain ⟨b, hb, rfl⟩ := hx
  cases hl : bnd 0 lo with
  | none => simp [hl] at he
  | some l =>
    cases hh : bnd n hi with
    | none => simp [hl, hh] at he
    | some hh' =>
      simp only [hl, hh] at he
      split at he
      · rename_i hc
        cases he
        have bh := bnd_rep hhi hh
        have hbd := run_bounds K.P w (isSl := false) (len := n) (cap := n) (mx := none) (bnd_rep hlo hl) bh rfl hc.1 hc.2 (Nat.le_refl _) (by simp) (fun e => by rw [e] at bh; simp only [bndV, Option.some.injEq] at bh; omega)
        refine SemOK.pure' h (val := .slice (some ⟨b, if n = l then off else off + l * es, none⟩) (hh' - l) (n - l)) ?_ ⟨b, hb, rfl⟩
        simp [Instr.sliceAt, run_underlying hT, Instr.sureAddr, hbd, szOf_run hes, add_eq]
        split <;> rfl
      · cases he

end
end Go.Av
