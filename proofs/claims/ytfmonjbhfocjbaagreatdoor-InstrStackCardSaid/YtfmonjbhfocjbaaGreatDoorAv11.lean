/- What a call leaves behind is dropped: the objects that nothing speaks of. -/
import Derived.Test.YtfmonjbhfocjbaaGreatDoorAv10
namespace Go.Av
open Go Go.RowKit

def underA (n : Nat) : AO → Prop
  | .box _ row => AV.underL n row = true
  | .tok _ _ => True
  | .map _ es _ => ∀ p ∈ es, p.k.under n = true ∧ p.v.under n = true
  | .loop la => AV.underL n la.caps = true

instance (n : Nat) : (a : AO) → Decidable (underA n a)
  | .box _ row => inferInstanceAs (Decidable (AV.underL n row = true))
  | .tok _ _ => inferInstanceAs (Decidable True)
  | .map _ es _ => inferInstanceAs (Decidable (∀ p ∈ es, p.k.under n = true ∧ p.v.under n = true))
  | .loop la => inferInstanceAs (Decidable (AV.underL n la.caps = true))

/-- a store whose objects speak of its own objects only -/
def wfS (σ : Store) : Prop := ∀ a ∈ σ, underA σ.length a

/-- the objects that were there still speak of such only -/
def keptS (n : Nat) (σ σ' : Store) : Prop := wfS σ → ∀ a ∈ σ'.take n, underA n a

instance (σ : Store) : Decidable (wfS σ) := inferInstanceAs (Decidable (∀ a ∈ σ, underA σ.length a))
instance (n : Nat) (σ σ' : Store) : Decidable (keptS n σ σ') := inferInstanceAs (Decidable (wfS σ → ∀ a ∈ σ'.take n, underA n a))

instance : Inhabited AO := ⟨.map true [] 0⟩

section
variable {K : Cfg} {G : Ghost} {σ : Store} {w : World}

theorem EntRep.under (hI : Inv K G σ w) {ex : Bool} : ∀ {es : List ME} {ents : List MapEntry}, EntRep G ex es ents → ∀ p ∈ es, p.k.under G.obj.length = true ∧ p.v.under G.obj.length = true
  | [], _, _, p, hp => by simp at hp
  | m :: r, _, ⟨e, es', _, h1, h2, _, h3⟩, p, hp => by
    rcases List.mem_cons.1 hp with rfl | hp
    · exact ⟨Rep.below hI h1, Rep.below hI h2⟩
    · exact EntRep.under hI h3 p hp

theorem CapRep.under (hI : Inv K G σ w) : ∀ {ts : List Nat} {cs : List AV} {tmps : Array Value}, CapRep G ts cs tmps → AV.underL G.obj.length cs = true
  | [], _, _, h => by rw [show _ = ([] : List AV) from h]; rfl
  | _ :: _, _, _, ⟨c, r, e, h1, h2⟩ => by
    subst e
    simp only [AV.underL, Bool.and_eq_true]
    exact ⟨Rep.below hI h1, CapRep.under hI h2⟩

theorem wfS_of (hI : Inv K G σ w) : wfS σ := fun a ha => by
  obtain ⟨i, hi⟩ := List.getElem?_of_mem ha
  have hlt := (List.getElem?_eq_some_iff.1 hi).1
  have hlen := hI.len
  obtain ⟨g, hg⟩ : ∃ g, G.obj[i]? = some g := ⟨_, List.getElem?_eq_getElem (by omega)⟩
  have hok := hI.obj i _ _ hg hi
  rw [← hI.len]
  cases g <;> cases a <;> simp only [ObjOK] at hok <;> try (exact hok.elim)
  · obtain ⟨_, rfl, hc⟩ := hok
    show AV.underL _ _ = true
    rw [belowL_all]
    refine List.all_eq_true.2 fun c hcm => ?_
    have := hc c hcm
    cases c <;> first | rfl | (simp [AV.const] at this; done) | skip
    rename_i o es els
    cases o <;> first | (simp [AV.const] at this; done) | skip
    cases els <;> first | rfl | (simp [AV.const] at this; done)
  · obtain ⟨_, vs, _, hr, _⟩ := hok; exact RepL.below hI hr
  · trivial
  · obtain ⟨_, es, cl, _, hr⟩ := hok
    obtain ⟨es', h1, h2, _⟩ := hr.ents
    exact fun p hp => h2.under hI p (h1.mem_iff.1 hp)
  · obtain ⟨_, r, _, hr⟩ := hok; exact hr.caps.under hI

def Ghost.cut (G : Ghost) (n : Nat) (ids : List Nat) : Ghost where
  ro := fun b o v c => G.ro b o v c ∧ c.under n = true
  obj := G.obj.take n ++ ids.map fun t => G.obj.getD t (.virt 0 [])
  fx := G.fx

def cutS (σ : Store) (n : Nat) (ids : List Nat) : Store := σ.take n ++ ids.map fun t => σ.getD t default

theorem cut_get {α : Type} {l : List α} {d : α} {n : Nat} {ids : List Nat} (hn : n ≤ l.length) {i : Nat} {x : α} (h : (l.take n ++ ids.map fun t => l.getD t d)[i]? = some x) :
    (i < n ∧ l[i]? = some x) ∨ (n ≤ i ∧ ∃ t, ids[i - n]? = some t ∧ l.getD t d = x) := by
  rcases Nat.lt_or_ge i n with hi | hi
  · left
    rw [List.getElem?_append_left (by simp; omega)] at h
    rw [List.getElem?_take_of_lt hi] at h
    exact ⟨hi, h⟩
  · right
    rw [List.getElem?_append_right (by simp; omega)] at h
    simp only [List.length_take, List.getElem?_map, Option.map_eq_some_iff] at h
    rw [Nat.min_eq_left hn] at h
    obtain ⟨t, h1, h2⟩ := h
    exact ⟨hi, t, h1, h2⟩

theorem cut_low (G : Ghost) {n : Nat} (ids : List Nat) (hn : n ≤ G.obj.length) {i : Nat} (hi : i < n) : (G.cut n ids).obj[i]? = G.obj[i]? := by
  simp only [Ghost.cut]
  rw [List.getElem?_append_left (by simp; omega), List.getElem?_take_of_lt hi]

theorem RoRow.cut {n : Nat} {ids : List Nat} {b o : Nat} {cs : List AV} (h : RoRow G b o cs) (hu : ∀ c ∈ cs, c.under n = true) : RoRow (G.cut n ids) b o cs := fun k c hc => by
  obtain ⟨v, hv⟩ := h k c hc
  exact ⟨v, hv, hu c (List.mem_of_getElem? hc)⟩

mutual
theorem Rep.cut {n : Nat} {ids : List Nat} (hn : n ≤ G.obj.length) : ∀ {c : AV} {v : Value}, Rep G c v → c.under n = true → Rep (G.cut n ids) c v
  | .bool _, _, h, _ => h
  | .int _ _, _, h, _ => h
  | .str _, _, h, _ => h
  | .agg cs, _, ⟨vs, e, h⟩, hu => ⟨vs, e, RepL.cut hn h hu⟩
  | .tup cs, _, ⟨vs, e, h⟩, hu => ⟨vs, e, RepL.cut hn h hu⟩
  | .sl o es els, _, ⟨a, len, cap, e, hs⟩, hu => ⟨a, len, cap, e, by
      simp only [AV.under, Bool.and_eq_true] at hu
      exact {
        hlen := hs.hlen
        hcap := hs.hcap
        hnil := hs.hnil
        hes := hs.hes
        hspot := hs.hspot
        hrow := fun x hx i el hel => (hs.hrow x hx i el hel).cut (below_cells (by
          have := hu.2
          rw [belowL_all] at this
          exact List.all_eq_true.1 this el (List.mem_of_getElem? hel)))
        hown := by
          have h1 := hs.hown
          cases o with
          | nil => exact h1
          | full => exact h1
          | any => exact h1
          | tok t =>
            obtain ⟨b, c, top, k1, k2⟩ := h1
            have := hu.1
            simp only [Own.under, decide_eq_true_eq] at this
            exact ⟨b, c, top, by rw [cut_low G ids hn this]; exact k1, k2⟩ }⟩
  | .sa _ _ _ _ _, _, ⟨b, hb, e⟩, hu => ⟨b, by simp only [AV.under, decide_eq_true_eq] at hu; rw [cut_low G ids hn hu]; exact hb, e⟩
  | .ptr _ _, _, ⟨b, hb, e⟩, hu => ⟨b, by simp only [AV.under, decide_eq_true_eq] at hu; rw [cut_low G ids hn hu]; exact hb, e⟩
  | .nilp, _, h, _ => h
  | .rp row, _, ⟨b, o, e, hr⟩, hu => ⟨b, o, e, hr.cut (by rw [AV.under, belowL_all] at hu; exact List.all_eq_true.1 hu)⟩
  | .fn f fs cs, _, ⟨a, c, e, h1, h2⟩, hu => by
    simp only [AV.under, Bool.and_eq_true] at hu
    exact ⟨a, c, e, RepL.cut hn h1 hu.1, RepL.cut hn h2 hu.2⟩
  | .nilf, _, h, _ => h
  | .map _, _, ⟨b, hb, e⟩, hu => ⟨b, by simp only [AV.under, decide_eq_true_eq] at hu; rw [cut_low G ids hn hu]; exact hb, e⟩
  | .nilm, _, h, _ => h
  | .ifc t x, _, ⟨u, e, h⟩, hu => ⟨u, e, Rep.cut hn h hu⟩
  | .nili, _, h, _ => h
  | .yld _, _, ⟨b, hb, e⟩, hu => ⟨b, by simp only [AV.under, decide_eq_true_eq] at hu; rw [cut_low G ids hn hu]; exact hb, e⟩
  | .top, _, h, _ => h
theorem RepL.cut {n : Nat} {ids : List Nat} (hn : n ≤ G.obj.length) : ∀ {cs : List AV} {vs : List Value}, RepL G cs vs → AV.underL n cs = true → RepL (G.cut n ids) cs vs
  | [], _, h, _ => h
  | _ :: _, _, ⟨v, r, e, h1, h2⟩, hu => by
    simp only [AV.underL, Bool.and_eq_true] at hu
    exact ⟨v, r, e, Rep.cut hn h1 hu.1, RepL.cut hn h2 hu.2⟩
end

theorem EntRep.cut {n : Nat} {ids : List Nat} (hn : n ≤ G.obj.length) {ex : Bool} : ∀ {es : List ME} {ents : List MapEntry}, EntRep G ex es ents → (∀ p ∈ es, p.k.under n = true ∧ p.v.under n = true) → EntRep (G.cut n ids) ex es ents
  | [], _, h, _ => h
  | _ :: _, _, ⟨e, es', he, h1, h2, hb, h3⟩, hu =>
    ⟨e, es', he, h1.cut hn (hu _ (List.mem_cons_self ..)).1, h2.cut hn (hu _ (List.mem_cons_self ..)).2, hb, EntRep.cut hn h3 fun p hp => hu p (List.mem_cons_of_mem _ hp)⟩

theorem CapRep.cut {n : Nat} {ids : List Nat} (hn : n ≤ G.obj.length) : ∀ {ts : List Nat} {cs : List AV} {tmps : Array Value}, CapRep G ts cs tmps → AV.underL n cs = true → CapRep (G.cut n ids) ts cs tmps
  | [], _, _, h, _ => h
  | _ :: _, _, _, ⟨c, r, e, h1, h2⟩, hu => by
    subst e
    simp only [AV.underL, Bool.and_eq_true] at hu
    exact ⟨c, r, rfl, h1.cut hn hu.1, CapRep.cut hn h2 hu.2⟩

theorem ObjOK.cut {n : Nat} {ids : List Nat} (hn : n ≤ G.obj.length) {g : GO} {a : AO} (h : ObjOK K G w g a) (hu : underA n a) : ObjOK K (G.cut n ids) w g a := by
  cases g <;> cases a <;> simp only [ObjOK] at h ⊢ <;> try exact h
  · obtain ⟨h1, vs, h2, h3, h4⟩ := h; exact ⟨h1, vs, h2, h3.cut hn hu, h4⟩
  · obtain ⟨h1, es, cl, h2, h3⟩ := h
    refine ⟨h1, es, cl, h2, ?_, h3.keys, h3.simple, h3.born⟩
    obtain ⟨es', k1, k2, k3⟩ := h3.ents
    exact ⟨es', k1, k2.cut hn fun p hp => hu p (k1.mem_iff.2 hp), k3⟩
  · obtain ⟨h1, r, h2, h3⟩ := h; exact ⟨h1, r, h2, h3.st, h3.pend, h3.rng, h3.np, h3.caps.cut hn hu⟩

/-- the objects from 'n' on, but those of a list, are dropped -/
theorem Inv.cut (h : Inv K G σ w) (hgl : ∀ k, (K.gl k).pure = true) {n : Nat} {ids : List Nat} (hn : n ≤ σ.length) (hlow : ∀ a ∈ σ.take n, underA n a)
    (hids : ∀ (j t : Nat), ids[j]? = some t → n ≤ t ∧ t < σ.length ∧ ∃ ty top, σ[t]? = some (.tok ty top)) (hnd : ∀ (i j t : Nat), ids[i]? = some t → ids[j]? = some t → i = j) :
    Inv K (G.cut n ids) (cutS σ n ids) w := by
  have hlen := h.len
  have hn' : n ≤ G.obj.length := by omega
  -- where an object of the new ghost comes from
  have hsrc : ∀ {i : Nat} {g : GO}, (G.cut n ids).obj[i]? = some g → ∃ k, G.obj[k]? = some g ∧ ((i < n ∧ k = i) ∨ (n ≤ i ∧ ids[i - n]? = some k)) := fun {i g} hg => by
    rcases cut_get hn' hg with ⟨hi, hg'⟩ | ⟨hi, t, ht, hd⟩
    · exact ⟨i, hg', .inl ⟨hi, rfl⟩⟩
    · have := (hids _ _ ht).2.1
      refine ⟨t, ?_, .inr ⟨hi, ht⟩⟩
      have hlt : t < G.obj.length := by omega
      rw [← hd, List.getD_eq_getElem?_getD, List.getElem?_eq_getElem hlt]; rfl
  exact {
    len := by simp [Ghost.cut, cutS, hlen]
    below := h.below
    base := h.base
    ro := fun b o v c hr => by
      obtain ⟨h1, h2, h3⟩ := h.ro b o v c hr.1
      exact ⟨h1, h2.cut hn' hr.2, h3⟩
    obj := fun i g a hg ha => by
      obtain ⟨k, hk, hcase⟩ := hsrc hg
      rcases cut_get (d := default) hn ha with ⟨hi, ha'⟩ | ⟨hi, t, ht, hd⟩
      · rcases hcase with ⟨_, rfl⟩ | ⟨hc, _⟩
        · refine (h.obj k g a hk ha').cut hn' (hlow a ?_)
          exact List.mem_of_getElem? (by rw [List.getElem?_take_of_lt hi]; exact ha')
        · omega
      · rcases hcase with ⟨hc, _⟩ | ⟨_, hk'⟩
        · omega
        · rw [ht] at hk'; cases hk'
          obtain ⟨_, hlt, ty, top, hs⟩ := hids _ _ ht
          have : a = .tok ty top := by rw [← hd, List.getD_eq_getElem?_getD, hs]; rfl
          subst this
          exact (h.obj _ g _ hk hs).cut hn' trivial
    sep := fun i j gi gj x hi hj h1 h2 => by
      obtain ⟨k, hk, hc⟩ := hsrc hi
      obtain ⟨l, hl, hd⟩ := hsrc hj
      have hkl := h.sep k l gi gj x hk hl h1 h2
      subst hkl
      rcases hc with ⟨hc, rfl⟩ | ⟨hc, hc'⟩
      · rcases hd with ⟨hd, rfl⟩ | ⟨hd, hd'⟩
        · rfl
        · have := (hids _ _ hd').1; omega
      · rcases hd with ⟨hd, rfl⟩ | ⟨hd, hd'⟩
        · have := (hids _ _ hc').1; omega
        · have := hnd _ _ _ hc' hd'; omega
    hid := fun i g hg x o v c hh hr => by
      obtain ⟨k, hk, _⟩ := hsrc hg
      exact h.hid k g hk x o v c hh hr.1
    gl := fun k => (h.gl k).cut hn' (below_of_pure n (hgl k))
    fx := fun D hD => by
      obtain ⟨h1, h2, h3⟩ := h.fx D hD
      refine ⟨h1, h2, fun i g hg => ?_⟩
      obtain ⟨k, hk, _⟩ := hsrc hg
      exact h3 k g hk }

theorem Ext.cut {G₀ : Ghost} {σ₀ : Store} {w₀ : World} (h₀ : Inv K G₀ σ₀ w₀) (hx : Ext G₀ G) {n : Nat} (ids : List Nat) (hn : n ≤ G.obj.length) (hn0 : G₀.obj.length = n) : Ext G₀ (G.cut n ids) where
  ro := fun b o v c hr => ⟨hx.ro b o v c hr, by
    have := Rep.below h₀ (h₀.ro b o v c hr).2.1
    rw [hn0] at this; exact this⟩
  obj := fun i g hg => by
    obtain ⟨g', hg', hl⟩ := hx.obj i g hg
    have : i < n := by rw [← hn0]; exact lt_of_obj hg
    exact ⟨g', by rw [cut_low G ids hn this]; exact hg', hl⟩
  fx := hx.fx

end
end Go.Av
