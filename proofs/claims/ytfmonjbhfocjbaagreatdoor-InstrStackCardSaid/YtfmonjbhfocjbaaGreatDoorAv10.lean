/- Weak values, pure values, and the objects that a call leaves behind. -/
import Derived.Test.YtfmonjbhfocjbaaGreatDoorAv2
namespace Go.Av
open Go Go.RowKit

mutual
def AV.weak : AV → AV
  | .bool b => .bool b
  | .int k n => .int k n
  | .str s => .str s
  | .agg cs => .agg (AV.weakL cs)
  | .tup cs => .tup (AV.weakL cs)
  | .sl _ es els => .sl .any es (AV.weakL els)
  | .sa id off len cap es => .sa id off len cap es
  | .ptr id off => .ptr id off
  | .nilp => .nilp
  | .rp row => .rp (AV.weakL row)
  | .fn f fs cs => .fn f (AV.weakL fs) (AV.weakL cs)
  | .nilf => .nilf
  | .map m => .map m
  | .nilm => .nilm
  | .ifc t x => .ifc t x.weak
  | .nili => .nili
  | .yld i => .yld i
  | .top => .top
def AV.weakL : List AV → List AV
  | [] => []
  | c :: cs => c.weak :: AV.weakL cs
end

def Own.isAny : Own → Bool
  | .any => true
  | _ => false

mutual
/-- no object, no owned slice -/
def AV.pure : AV → Bool
  | .bool _ => true
  | .int _ _ => true
  | .str _ => true
  | .agg cs => AV.pureL cs
  | .tup cs => AV.pureL cs
  | .sl o _ els => o.isAny && AV.pureL els
  | .sa _ _ _ _ _ => false
  | .ptr _ _ => false
  | .nilp => true
  | .rp row => AV.pureL row
  | .fn _ fs cs => AV.pureL fs && AV.pureL cs
  | .nilf => true
  | .map _ => false
  | .nilm => true
  | .ifc _ x => x.pure
  | .nili => true
  | .yld _ => false
  | .top => true
def AV.pureL : List AV → Bool
  | [] => true
  | c :: cs => c.pure && AV.pureL cs
end

def Own.under (n : Nat) : Own → Bool
  | .tok t => decide (t < n)
  | _ => true

mutual
def AV.under (n : Nat) : AV → Bool
  | .bool _ => true
  | .int _ _ => true
  | .str _ => true
  | .agg cs => AV.underL n cs
  | .tup cs => AV.underL n cs
  | .sl o _ els => o.under n && AV.underL n els
  | .sa id _ _ _ _ => decide (id < n)
  | .ptr id _ => decide (id < n)
  | .nilp => true
  | .rp row => AV.underL n row
  | .fn _ fs cs => AV.underL n fs && AV.underL n cs
  | .nilf => true
  | .map m => decide (m < n)
  | .nilm => true
  | .ifc _ x => AV.under n x
  | .nili => true
  | .yld i => decide (i < n)
  | .top => true
def AV.underL (n : Nat) : List AV → Bool
  | [] => true
  | c :: cs => AV.under n c && AV.underL n cs
end

theorem weakL_map : ∀ (cs : List AV), AV.weakL cs = cs.map AV.weak
  | [] => rfl
  | c :: cs => by simp [AV.weakL, weakL_map cs]
theorem pureL_all : ∀ (cs : List AV), AV.pureL cs = cs.all AV.pure
  | [] => rfl
  | c :: cs => by simp [AV.pureL, pureL_all cs]
theorem belowL_all (n : Nat) : ∀ (cs : List AV), AV.underL n cs = cs.all (AV.under n)
  | [] => rfl
  | c :: cs => by simp [AV.underL, belowL_all n cs]

theorem weak_flat (c : AV) : c.weak.flat = c.flat := by cases c <;> simp [AV.weak, AV.flat]
theorem weak_cells (c : AV) : c.weak.cells = c.cells.map AV.weak := by cases c <;> simp [AV.weak, AV.cells, weakL_map]

mutual
theorem weak_of_pure : ∀ {c : AV}, c.pure = true → c.weak = c
  | .bool _, _ => rfl
  | .int _ _, _ => rfl
  | .str _, _ => rfl
  | .agg cs, h => by simp only [AV.weak]; rw [weakL_of_pure (cs := cs) h]
  | .tup cs, h => by simp only [AV.weak]; rw [weakL_of_pure (cs := cs) h]
  | .sl o _ els, h => by
    simp only [AV.pure, Bool.and_eq_true] at h
    simp only [AV.weak]; rw [weakL_of_pure (cs := els) h.2]
    cases o <;> first | rfl | (simp [Own.isAny] at h; done)
  | .sa _ _ _ _ _, h => rfl
  | .ptr _ _, h => rfl
  | .nilp, _ => rfl
  | .rp row, h => by simp only [AV.weak]; rw [weakL_of_pure (cs := row) h]
  | .fn f fs cs, h => by
    simp only [AV.pure, Bool.and_eq_true] at h
    simp only [AV.weak]; rw [weakL_of_pure (cs := fs) h.1, weakL_of_pure (cs := cs) h.2]
  | .nilf, _ => rfl
  | .map _, _ => rfl
  | .nilm, _ => rfl
  | .ifc t x, h => by simp only [AV.weak]; rw [weak_of_pure (c := x) h]
  | .nili, _ => rfl
  | .yld _, _ => rfl
  | .top, _ => rfl
theorem weakL_of_pure : ∀ {cs : List AV}, AV.pureL cs = true → AV.weakL cs = cs
  | [], _ => rfl
  | c :: cs, h => by
    simp only [AV.pureL, Bool.and_eq_true] at h
    simp only [AV.weakL]; rw [weak_of_pure h.1, weakL_of_pure h.2]
end

mutual
theorem below_of_pure (n : Nat) : ∀ {c : AV}, c.pure = true → c.under n = true
  | .bool _, _ => rfl
  | .int _ _, _ => rfl
  | .str _, _ => rfl
  | .agg cs, h => belowL_of_pure n (cs := cs) h
  | .tup cs, h => belowL_of_pure n (cs := cs) h
  | .sl o _ els, h => by
    simp only [AV.pure, Bool.and_eq_true] at h
    simp only [AV.under, Bool.and_eq_true]
    refine ⟨?_, belowL_of_pure n (cs := els) h.2⟩
    cases o <;> first | rfl | (simp [Own.isAny] at h; done)
  | .sa _ _ _ _ _, h => by simp [AV.pure] at h
  | .ptr _ _, h => by simp [AV.pure] at h
  | .nilp, _ => rfl
  | .rp row, h => belowL_of_pure n (cs := row) h
  | .fn f fs cs, h => by
    simp only [AV.pure, Bool.and_eq_true] at h
    simp only [AV.under, Bool.and_eq_true]
    exact ⟨belowL_of_pure n (cs := fs) h.1, belowL_of_pure n (cs := cs) h.2⟩
  | .nilf, _ => rfl
  | .map _, h => by simp [AV.pure] at h
  | .nilm, _ => rfl
  | .ifc t x, h => below_of_pure n (c := x) h
  | .nili, _ => rfl
  | .yld _, h => by simp [AV.pure] at h
  | .top, _ => rfl
theorem belowL_of_pure (n : Nat) : ∀ {cs : List AV}, AV.pureL cs = true → AV.underL n cs = true
  | [], _ => rfl
  | c :: cs, h => by
    simp only [AV.pureL, Bool.and_eq_true] at h
    simp only [AV.underL, Bool.and_eq_true]
    exact ⟨below_of_pure n h.1, belowL_of_pure n h.2⟩
end

mutual
theorem below_mono {n m : Nat} (hnm : n ≤ m) : ∀ {c : AV}, c.under n = true → c.under m = true
  | .bool _, _ => rfl
  | .int _ _, _ => rfl
  | .str _, _ => rfl
  | .agg cs, h => belowL_mono hnm (cs := cs) h
  | .tup cs, h => belowL_mono hnm (cs := cs) h
  | .sl o _ els, h => by
    simp only [AV.under, Bool.and_eq_true] at h ⊢
    refine ⟨?_, belowL_mono hnm (cs := els) h.2⟩
    have h1 := h.1
    cases o <;> simp only [Own.under, decide_eq_true_eq] at h1 ⊢
    omega
  | .sa _ _ _ _ _, h => by simp only [AV.under, decide_eq_true_eq] at h ⊢; omega
  | .ptr _ _, h => by simp only [AV.under, decide_eq_true_eq] at h ⊢; omega
  | .nilp, _ => rfl
  | .rp row, h => belowL_mono hnm (cs := row) h
  | .fn f fs cs, h => by
    simp only [AV.under, Bool.and_eq_true] at h ⊢
    exact ⟨belowL_mono hnm (cs := fs) h.1, belowL_mono hnm (cs := cs) h.2⟩
  | .nilf, _ => rfl
  | .map _, h => by simp only [AV.under, decide_eq_true_eq] at h ⊢; omega
  | .nilm, _ => rfl
  | .ifc t x, h => below_mono hnm (c := x) h
  | .nili, _ => rfl
  | .yld _, h => by simp only [AV.under, decide_eq_true_eq] at h ⊢; omega
  | .top, _ => rfl
theorem belowL_mono {n m : Nat} (hnm : n ≤ m) : ∀ {cs : List AV}, AV.underL n cs = true → AV.underL m cs = true
  | [], _ => rfl
  | c :: cs, h => by
    simp only [AV.underL, Bool.and_eq_true] at h ⊢
    exact ⟨below_mono hnm h.1, belowL_mono hnm h.2⟩
end

theorem below_cells {n : Nat} {c : AV} (h : c.under n = true) : ∀ x ∈ c.cells, x.under n = true := by
  cases c <;> simp only [AV.cells, List.mem_singleton] <;> first | (intro x hx; subst hx; exact h) | skip
  rw [AV.under, belowL_all] at h
  exact List.all_eq_true.1 h

/-! ### equality can be decided -/
mutual
def AV.eqB : AV → AV → Bool
  | .bool a, .bool b => a == b
  | .int k a, .int l b => decide (k = l) && decide (a = b)
  | .str a, .str b => decide (a = b)
  | .agg a, .agg b => AV.eqBL a b
  | .tup a, .tup b => AV.eqBL a b
  | .sl o e a, .sl p f b => decide (o = p) && (decide (e = f) && AV.eqBL a b)
  | .sa i o l c e, .sa i' o' l' c' e' => decide (i = i' ∧ o = o' ∧ l = l' ∧ c = c' ∧ e = e')
  | .ptr i o, .ptr j p => decide (i = j ∧ o = p)
  | .nilp, .nilp => true
  | .rp a, .rp b => AV.eqBL a b
  | .fn f a c, .fn g b d => decide (f = g) && (AV.eqBL a b && AV.eqBL c d)
  | .nilf, .nilf => true
  | .map m, .map n => decide (m = n)
  | .nilm, .nilm => true
  | .ifc t x, .ifc u y => decide (t = u) && AV.eqB x y
  | .nili, .nili => true
  | .yld i, .yld j => decide (i = j)
  | .top, .top => true
  | _, _ => false
def AV.eqBL : List AV → List AV → Bool
  | [], [] => true
  | a :: as, b :: bs => AV.eqB a b && AV.eqBL as bs
  | _, _ => false
end

mutual
theorem AV.eqB_refl : ∀ (a : AV), AV.eqB a a = true
  | .bool _ => by simp [AV.eqB]
  | .int _ _ => by simp [AV.eqB]
  | .str _ => by simp [AV.eqB]
  | .agg a => AV.eqBL_refl a
  | .tup a => AV.eqBL_refl a
  | .sl _ _ a => by simp [AV.eqB, AV.eqBL_refl a]
  | .sa _ _ _ _ _ => by simp [AV.eqB]
  | .ptr _ _ => by simp [AV.eqB]
  | .nilp => rfl
  | .rp a => AV.eqBL_refl a
  | .fn _ a c => by simp [AV.eqB, AV.eqBL_refl a, AV.eqBL_refl c]
  | .nilf => rfl
  | .map _ => by simp [AV.eqB]
  | .nilm => rfl
  | .ifc _ x => by simp [AV.eqB, AV.eqB_refl x]
  | .nili => rfl
  | .yld _ => by simp [AV.eqB]
  | .top => rfl
theorem AV.eqBL_refl : ∀ (a : List AV), AV.eqBL a a = true
  | [] => rfl
  | a :: as => by simp [AV.eqBL, AV.eqB_refl a, AV.eqBL_refl as]
end

mutual
theorem AV.eq_of_eqB : ∀ (a b : AV), AV.eqB a b = true → a = b
  | .bool a, b, h => by cases b <;> simp_all [AV.eqB]
  | .int k a, b, h => by cases b <;> simp_all [AV.eqB]
  | .str a, b, h => by cases b <;> simp_all [AV.eqB]
  | .agg a, b, h => by
    cases b <;> first | (simp [AV.eqB] at h; done) | skip
    rename_i b; rw [AV.eqL_of_eqB a b h]
  | .tup a, b, h => by
    cases b <;> first | (simp [AV.eqB] at h; done) | skip
    rename_i b; rw [AV.eqL_of_eqB a b h]
  | .sl o e a, b, h => by
    cases b <;> first | (simp [AV.eqB] at h; done) | skip
    rename_i p f b
    simp only [AV.eqB, Bool.and_eq_true, decide_eq_true_eq] at h
    rw [h.1, h.2.1, AV.eqL_of_eqB a b h.2.2]
  | .sa _ _ _ _ _, b, h => by cases b <;> simp_all [AV.eqB]
  | .ptr _ _, b, h => by cases b <;> simp_all [AV.eqB]
  | .nilp, b, h => by cases b <;> simp_all [AV.eqB]
  | .rp a, b, h => by
    cases b <;> first | (simp [AV.eqB] at h; done) | skip
    rename_i b; rw [AV.eqL_of_eqB a b h]
  | .fn f a c, b, h => by
    cases b <;> first | (simp [AV.eqB] at h; done) | skip
    rename_i g b d
    simp only [AV.eqB, Bool.and_eq_true, decide_eq_true_eq] at h
    rw [h.1, AV.eqL_of_eqB a b h.2.1, AV.eqL_of_eqB c d h.2.2]
  | .nilf, b, h => by cases b <;> simp_all [AV.eqB]
  | .map _, b, h => by cases b <;> simp_all [AV.eqB]
  | .nilm, b, h => by cases b <;> simp_all [AV.eqB]
  | .ifc t x, b, h => by
    cases b <;> first | (simp [AV.eqB] at h; done) | skip
    rename_i u y
    simp only [AV.eqB, Bool.and_eq_true, decide_eq_true_eq] at h
    rw [h.1, AV.eq_of_eqB x y h.2]
  | .nili, b, h => by cases b <;> simp_all [AV.eqB]
  | .yld _, b, h => by cases b <;> simp_all [AV.eqB]
  | .top, b, h => by cases b <;> simp_all [AV.eqB]
theorem AV.eqL_of_eqB : ∀ (a b : List AV), AV.eqBL a b = true → a = b
  | [], [], _ => rfl
  | [], _ :: _, h => by simp [AV.eqBL] at h
  | _ :: _, [], h => by simp [AV.eqBL] at h
  | a :: as, b :: bs, h => by
    simp only [AV.eqBL, Bool.and_eq_true] at h
    rw [AV.eq_of_eqB a b h.1, AV.eqL_of_eqB as bs h.2]
end

instance : DecidableEq AV := fun a b =>
  match h : AV.eqB a b with
  | true => .isTrue (AV.eq_of_eqB a b h)
  | false => .isFalse fun e => by subst e; rw [AV.eqB_refl] at h; cases h

/-! ### weakening -/
def Ghost.wk (G : Ghost) : Ghost := { G with ro := fun b o v c' => ∃ c, G.ro b o v c ∧ (c' = c ∨ c' = c.weak) }

theorem Ghost.wk_ext (G : Ghost) : Ext G G.wk := ⟨fun _ _ _ c h => ⟨c, h, .inl rfl⟩, fun _ g h => ⟨g, h, .refl g⟩, fun _ h => h⟩

theorem RoRow.weak {G : Ghost} {b o : Nat} {cs : List AV} (h : RoRow G b o cs) : RoRow G.wk b o (cs.map AV.weak) := fun k c hc => by
  rw [List.getElem?_map, Option.map_eq_some_iff] at hc
  obtain ⟨c0, h0, rfl⟩ := hc
  obtain ⟨v, hv⟩ := h k c0 h0
  exact ⟨v, c0, hv, .inr rfl⟩

mutual
theorem Rep.weak {G : Ghost} : ∀ {c : AV} {v : Value}, Rep G c v → Rep G.wk c.weak v
  | .bool _, _, h => h
  | .int _ _, _, h => h
  | .str _, _, h => h
  | .agg cs, _, ⟨vs, e, h⟩ => ⟨vs, e, RepL.weak h⟩
  | .tup cs, _, ⟨vs, e, h⟩ => ⟨vs, e, RepL.weak h⟩
  | .sl o es els, _, ⟨a, len, cap, e, hs⟩ => ⟨a, len, cap, e, by
      rw [weakL_map]
      exact {
        hlen := by simpa using hs.hlen
        hcap := hs.hcap
        hnil := hs.hnil
        hes := fun i el hel => by
          rw [List.getElem?_map, Option.map_eq_some_iff] at hel
          obtain ⟨e0, h0, rfl⟩ := hel
          rw [weak_cells, List.length_map]; exact hs.hes i e0 h0
        hspot := hs.hspot
        hrow := fun x hx i el hel => by
          rw [List.getElem?_map, Option.map_eq_some_iff] at hel
          obtain ⟨e0, h0, rfl⟩ := hel
          rw [weak_cells]; exact (hs.hrow x hx i e0 h0).weak
        hown := trivial }⟩
  | .sa _ _ _ _ _, _, h => h
  | .ptr _ _, _, h => h
  | .nilp, _, h => h
  | .rp row, _, ⟨b, o, e, hr⟩ => ⟨b, o, e, by rw [weakL_map]; exact hr.weak⟩
  | .fn f fs cs, _, ⟨a, c, e, h1, h2⟩ => ⟨a, c, e, RepL.weak h1, RepL.weak h2⟩
  | .nilf, _, h => h
  | .map _, _, h => h
  | .nilm, _, h => h
  | .ifc t x, _, ⟨u, e, h⟩ => ⟨u, e, Rep.weak h⟩
  | .nili, _, h => h
  | .yld _, _, h => h
  | .top, _, h => h
theorem RepL.weak {G : Ghost} : ∀ {cs : List AV} {vs : List Value}, RepL G cs vs → RepL G.wk (AV.weakL cs) vs
  | [], _, h => h
  | _ :: _, _, ⟨v, r, e, h1, h2⟩ => ⟨v, r, e, Rep.weak h1, RepL.weak h2⟩
end

section
variable {K : Cfg} {G : Ghost} {σ : Store} {w : World}

theorem Inv.weak (h : Inv K G σ w) : Inv K G.wk σ w where
  len := h.len
  below := h.below
  base := h.base
  ro := fun b o v c' hr => by
    obtain ⟨c, hc, hcc⟩ := hr
    obtain ⟨h1, h2, h3⟩ := h.ro b o v c hc
    rcases hcc with rfl | rfl
    · exact ⟨h1, h2.mono G.wk_ext, h3⟩
    · exact ⟨h1, h2.weak, by rw [weak_flat]; exact h3⟩
  obj := fun i g a hg ha => (h.obj i g a hg ha).mono G.wk_ext
  sep := h.sep
  hid := fun i g hg x o v c hh hr => by obtain ⟨c, hc, _⟩ := hr; exact h.hid i g hg x o v c hh hc
  gl := fun n => (h.gl n).mono G.wk_ext
  fx := h.fx

/-! ### what is represented speaks of objects that are there -/
theorem lt_of_obj {i : Nat} {g : GO} (h : G.obj[i]? = some g) : i < G.obj.length := (List.getElem?_eq_some_iff.1 h).1

theorem all_of_cells {n : Nat} {el : AV} (h : ∀ x ∈ el.cells, x.under n = true) : el.under n = true := by
  cases el <;> first | exact h _ (List.mem_singleton.2 rfl) | skip
  rw [AV.under, belowL_all]; exact List.all_eq_true.2 h

mutual
theorem Rep.below (hI : Inv K G σ w) : ∀ {c : AV} {v : Value}, Rep G c v → c.under G.obj.length = true
  | .bool _, _, _ => rfl
  | .int _ _, _, _ => rfl
  | .str _, _, _ => rfl
  | .agg cs, _, ⟨vs, e, h⟩ => RepL.below hI h
  | .tup cs, _, ⟨vs, e, h⟩ => RepL.below hI h
  | .sl o es els, _, ⟨a, len, cap, e, hs⟩ => by
    simp only [AV.under, Bool.and_eq_true]
    refine ⟨?_, ?_⟩
    · have := hs.hown
      cases o <;> first | rfl | skip
      obtain ⟨b, c, top, h1, _⟩ := this
      simp only [Own.under, decide_eq_true_eq]; exact lt_of_obj h1
    · cases a with
      | none =>
        have h1 := hs.hnil rfl
        have h2 := hs.hcap
        have h3 := hs.hlen
        have : els = [] := List.length_eq_zero_iff.1 (by omega)
        subst this; rfl
      | some x =>
        exact RowsBelow hI (els := els) (b := x.block) (f := fun i => x.off + i * es) (fun i el hel => hs.hrow x rfl i el hel)
  | .sa _ _ _ _ _, _, ⟨b, hb, _⟩ => by simp only [AV.under, decide_eq_true_eq]; exact lt_of_obj hb
  | .ptr _ _, _, ⟨b, hb, _⟩ => by simp only [AV.under, decide_eq_true_eq]; exact lt_of_obj hb
  | .nilp, _, _ => rfl
  | .rp row, _, ⟨b, o, e, hr⟩ => RowBelow hI hr
  | .fn f fs cs, _, ⟨a, c, e, h1, h2⟩ => by
    simp only [AV.under, Bool.and_eq_true]
    exact ⟨RepL.below hI h1, RepL.below hI h2⟩
  | .nilf, _, _ => rfl
  | .map _, _, ⟨b, hb, _⟩ => by simp only [AV.under, decide_eq_true_eq]; exact lt_of_obj hb
  | .nilm, _, _ => rfl
  | .ifc t x, _, ⟨u, e, h⟩ => Rep.below hI (c := x) h
  | .nili, _, _ => rfl
  | .yld _, _, ⟨b, hb, _⟩ => by simp only [AV.under, decide_eq_true_eq]; exact lt_of_obj hb
  | .top, _, _ => rfl
theorem RepL.below (hI : Inv K G σ w) : ∀ {cs : List AV} {vs : List Value}, RepL G cs vs → AV.underL G.obj.length cs = true
  | [], _, _ => rfl
  | _ :: _, _, ⟨v, r, e, h1, h2⟩ => by
    simp only [AV.underL, Bool.and_eq_true]
    exact ⟨Rep.below hI h1, RepL.below hI h2⟩
theorem RowBelow (hI : Inv K G σ w) : ∀ {cs : List AV} {b o : Nat}, RoRow G b o cs → AV.underL G.obj.length cs = true
  | [], _, _, _ => rfl
  | c :: cs, b, o, h => by
    simp only [AV.underL, Bool.and_eq_true]
    refine ⟨?_, RowBelow hI (cs := cs) (b := b) (o := o + 1) fun k c' hc => ?_⟩
    · obtain ⟨v, hv⟩ := h 0 c rfl
      exact Rep.below hI (hI.ro _ _ _ _ hv).2.1
    · have := h (k + 1) c' (by simpa using hc)
      rw [show o + (k + 1) = o + 1 + k by omega] at this
      exact this
theorem RowsBelow (hI : Inv K G σ w) : ∀ {els : List AV} {b : Nat} {f : Nat → Nat}, (∀ (i : Nat) el, els[i]? = some el → RoRow G b (f i) el.cells) → AV.underL G.obj.length els = true
  | [], _, _, _ => rfl
  | el :: els, b, f, h => by
    simp only [AV.underL, Bool.and_eq_true]
    refine ⟨CellsBelow hI (h 0 el rfl), RowsBelow hI (els := els) (b := b) (f := fun i => f (i + 1)) fun i e he => h (i + 1) e (by simpa using he)⟩
theorem CellsBelow (hI : Inv K G σ w) : ∀ {el : AV} {b o : Nat}, RoRow G b o el.cells → el.under G.obj.length = true
  | .agg cs, b, o, h => RowBelow hI (cs := cs) h
  | .bool _, _, _, _ => rfl
  | .int _ _, _, _, _ => rfl
  | .str _, _, _, _ => rfl
  | .tup cs, b, o, h => by
    obtain ⟨v, hv⟩ := h 0 _ rfl
    have := (hI.ro _ _ _ _ hv).2.2
    simp [AV.flat] at this
  | .sl p es els, _, _, h => by
    obtain ⟨v, hv⟩ := h 0 _ rfl
    exact Rep.below hI (c := .sl p es els) (hI.ro _ _ _ _ hv).2.1
  | .sa id off len cap es, _, _, h => by
    obtain ⟨v, hv⟩ := h 0 _ rfl
    obtain ⟨b, hb, _⟩ := (hI.ro _ _ _ _ hv).2.1
    simp only [AV.under, decide_eq_true_eq]; exact lt_of_obj hb
  | .ptr id off, _, _, h => by
    obtain ⟨v, hv⟩ := h 0 _ rfl
    obtain ⟨b, hb, _⟩ := (hI.ro _ _ _ _ hv).2.1
    simp only [AV.under, decide_eq_true_eq]; exact lt_of_obj hb
  | .nilp, _, _, _ => rfl
  | .rp row, _, _, h => by
    obtain ⟨v, hv⟩ := h 0 _ rfl
    exact Rep.below hI (c := .rp row) (hI.ro _ _ _ _ hv).2.1
  | .fn f fs cs, _, _, h => by
    obtain ⟨v, hv⟩ := h 0 _ rfl
    exact Rep.below hI (c := .fn f fs cs) (hI.ro _ _ _ _ hv).2.1
  | .nilf, _, _, _ => rfl
  | .map m, _, _, h => by
    obtain ⟨v, hv⟩ := h 0 _ rfl
    obtain ⟨b, hb, _⟩ := (hI.ro _ _ _ _ hv).2.1
    simp only [AV.under, decide_eq_true_eq]; exact lt_of_obj hb
  | .nilm, _, _, _ => rfl
  | .ifc t x, _, _, h => by
    obtain ⟨v, hv⟩ := h 0 _ rfl
    obtain ⟨u, _, hu⟩ := (hI.ro _ _ _ _ hv).2.1
    exact Rep.below hI (c := x) hu
  | .nili, _, _, _ => rfl
  | .yld i, _, _, h => by
    obtain ⟨v, hv⟩ := h 0 _ rfl
    obtain ⟨b, hb, _⟩ := (hI.ro _ _ _ _ hv).2.1
    simp only [AV.under, decide_eq_true_eq]; exact lt_of_obj hb
  | .top, _, _, _ => rfl
end

end
end Go.Av
