/-
  What a grammar means, plainly.
-/
import Derived.Test.YtkimkghldilliaaGreatGrJ
import Derived.Test.YtkimkghldilliaaGreatTrI
import Derived.Test.YtkimkghldilliaaGreatStD
import Derived.Test.YtkimkghldilliaaGreatCls
namespace Go.Proofs.YtkimkghldilliaaGreat
open Go.RowKit Go.Lib

/-- a match: its end, what was missed, its forest and how many roots that has. -/
structure Ht where
  en : Nat
  far : Int
  roots : Nat
  forest : List Tw
/-- what comes of a node. -/
inductive Fo
  | miss (far : Int)
  | hit (h : Ht)
/-- steps that are left. -/
structure Ss where
  left : Nat
  over : Bool
/-- a seed. -/
structure Sd where
  en : Nat
  lev : Int
  tree : List Tw
abbrev Lv := List (Pr × Option Sd)
abbrev Rs := Option (Fo × Ss)
/-- the longest forest that is gone through. -/
def lim : Nat := 1000000
def upTo (e : Nat) : Ht := ⟨e, -1, 0, []⟩
def Ht.then (a b : Ht) : Option Ht := if a.forest.length + b.forest.length ≤ lim then some ⟨b.en, max a.far b.far, a.roots + b.roots, a.forest ++ b.forest⟩ else none
def Ht.tried (a : Ht) (far : Int) : Ht := { a with far := max a.far far }
def Ht.called (a : Ht) (rule lev : Int) (p : Nat) : Option Ht := if a.forest.length + 1 ≤ lim then some ⟨a.en, a.far, 1, ⟨rule, lev, p, a.en, a.roots⟩ :: a.forest⟩ else none
section
variable (E : Nat → Nat → Lv → Ss → Rs)
def seqE (L : Lv) : List Int → Ht → Ss → Rs
  | [], f, s => some (.hit f, s)
  | k :: ks, f, s => match E k.toNat f.en L s with
    | none => none
    | some (.miss far, s1) => some (.miss (max far f.far), s1)
    | some (.hit h, s1) => match f.then h with
      | none => none
      | some g => seqE L ks g s1
def altE (L : Lv) (p : Nat) : List Int → Int → Ss → Rs
  | [], far, s => some (.miss far, s)
  | k :: ks, far, s => match E k.toNat p L s with
    | none => none
    | some (.miss fr, s1) => altE L p ks (max far fr) s1
    | some (.hit h, s1) => some (.hit (h.tried (max far h.far)), s1)
def moreE (L : Lv) (k : Nat) : Nat → Ht → Ss → Rs
  | 0, _, _ => none
  | n + 1, f, s => match E k f.en L s with
    | none => none
    | some (.miss far, s1) => some (.hit (f.tried far), s1)
    | some (.hit h, s1) => if h.en = f.en then some (.hit (f.tried h.far), s1) else match f.then h with
      | none => none
      | some g => moreE L k n g s1
/-- the seed grows: the last one, what was missed. -/
def growE (doc : Bool) (L : Lv) (r lev : Int) (p body : Nat) : Nat → Ht → Ht → Int → Ss → Option (Ht × Int × Ss)
  | 0, _, _, _, _ => none
  | n + 1, last, next, far, s => if doc = false ∧ s.over = true then some (last, far, s) else
    match E body p (L ++ [((r, (p : Int)), some ⟨next.en, lev, next.forest⟩)]) s with
    | none => none
    | some (.miss fr, s1) => some (next, max far fr, s1)
    | some (.hit h, s1) => if h.en ≤ next.en then some (next, max far h.far, s1) else growE doc L r lev p body n next h (max far h.far) s1
/-- a pair that is not live. -/
def freshE (doc : Bool) (L : Lv) (r lev : Int) (p body n : Nat) (s : Ss) : Rs :=
  match E body p (L ++ [((r, (p : Int)), none)]) s with
  | none => none
  | some (.miss far, s1) => some (.miss far, s1)
  | some (.hit h, s1) => match growE E doc L r lev p body n h h h.far s1 with
    | none => none
    | some (g, far, s2) => match (g.tried far).called r lev p with
      | none => none
      | some g' => some (.hit g', s2)
end
/-- the bytes of a text. -/
def textAt (W : List UInt8) : List UInt8 → Nat → Fo
  | [], p => .hit (upTo p)
  | c :: t, p => if W[p]? = some c then textAt W t (p + 1) else .miss p
def clsOf (x : Nd) : Nat → Bool := clWords x.c0.toNat x.c1.toNat x.c2.toNat x.c3.toNat
def oneAt (W : List UInt8) (x : Nd) (p : Nat) : Fo := match W[p]? with
  | none => .miss p
  | some c => if x.kind = 3 ∧ clsOf x c.toNat = false then .miss p else .hit (upTo (p + 1))
/-- a call. -/
def callE (E : Nat → Nat → Lv → Ss → Rs) (doc : Bool) (R : List Ru) (L : Lv) (r lev : Int) (p n : Nat) (s : Ss) : Rs :=
  match L.lookup (r, (p : Int)) with
  | some none => some (.miss (-1), s)
  | some (some sd) => if sd.lev ≤ lev then (match (Ht.mk sd.en (-1) (topR sd.tree).length sd.tree).called r lev p with
      | none => none
      | some g => some (.hit g, s)) else some (.miss (-1), s)
  | none => match R[r.toNat]? with
    | none => none
    | some ru => freshE E doc L r lev p ru.body.toNat n s
def optE (p : Nat) : Fo × Ss → Fo × Ss
  | (.miss far, s) => (.hit ((upTo p).tried far), s)
  | (.hit h, s) => (.hit h, s)
def lookE (kind : Int) (p : Nat) : Fo × Ss → Fo × Ss
  | (.miss far, s) => (if kind = 12 then .miss far else .hit ((upTo p).tried far), s)
  | (.hit h, s) => (if kind = 12 then .hit ((upTo p).tried h.far) else .miss h.far, s)
/-- what a node means, by its kind. -/
def nodeE (E : Nat → Nat → Lv → Ss → Rs) (doc : Bool) (R : List Ru) (W : List UInt8) (x : Nd) (p : Nat) (L : Lv) (n : Nat) (s : Ss) : Rs :=
  if x.kind = 1 then some (.hit (upTo p), s)
  else if x.kind = 2 ∨ x.kind = 3 then some (oneAt W x p, s)
  else if x.kind = 4 then some (textAt W x.text.data.toList p, s)
  else if x.kind = 5 then callE E doc R L x.rule x.level p n s
  else if x.kind = 6 then seqE E L x.kids (upTo p) s
  else if x.kind = 7 then altE E L p x.kids (-1) s
  else match x.kids with
    | [] => none
    | k :: _ =>
      if x.kind = 8 then moreE E L k.toNat n (upTo p) s
      else if x.kind = 9 then match E k.toNat p L s with
        | none => none
        | some (.miss far, s1) => some (.miss far, s1)
        | some (.hit h, s1) => moreE E L k.toNat n h s1
      else if x.kind = 10 then (E k.toNat p L s).map (optE p)
      else (E k.toNat p L s).map (lookE x.kind p)
/-- what a node means, in so many steps. -/
def ev (doc : Bool) (R : List Ru) (N : List Nd) (W : List UInt8) : Nat → Nat → Nat → Lv → Ss → Rs
  | 0, _, _, _, s => some (.miss (-1), { s with over := true })
  | f + 1, n, p, L, s => if s.over = true ∨ s.left = 0 then some (.miss (-1), { s with over := true }) else
    match N[n]? with
    | none => none
    | some x => nodeE (ev doc R N W f) doc R W x p L (f + 1) ⟨s.left - 1, false⟩
/-- a right grammar, as far as matching goes. -/
structure GrV (R : List Ru) (N : List Nd) : Prop where
  few : R.length ≤ 32
  kind : ∀ x ∈ N, 1 ≤ x.kind ∧ x.kind ≤ 12
  kids : ∀ x ∈ N, ∀ k ∈ x.kids, 0 ≤ k ∧ k.toNat < N.length
  one : ∀ x ∈ N, 8 ≤ x.kind → x.kids ≠ []
  call : ∀ x ∈ N, x.kind = 5 → 0 ≤ x.rule ∧ x.rule.toNat < R.length ∧ 0 ≤ x.level ∧ x.level ≤ 99
  text : ∀ x ∈ N, x.kind = 4 → x.text.size ≤ 64
  body : ∀ r ∈ R, 0 ≤ r.body ∧ r.body.toNat < N.length
/-- a twig of small numbers. -/
def twS (t : Tw) : Prop := 0 ≤ t.rule ∧ t.rule < 32 ∧ 0 ≤ t.lev ∧ t.lev ≤ 99 ∧ 0 ≤ t.fr ∧ t.fr ≤ t.to ∧ t.to ≤ 2048 ∧ 0 ≤ t.kids ∧ t.kids ≤ 1000000
def HtOk (W : List UInt8) (p : Nat) (h : Ht) : Prop := p ≤ h.en ∧ h.en ≤ W.length ∧ -1 ≤ h.far ∧ h.far ≤ W.length ∧ h.forest.length ≤ lim ∧ h.roots ≤ h.forest.length ∧ ∀ t ∈ h.forest, twS t
def FoOk (W : List UInt8) (p : Nat) : Fo → Prop
  | .miss far => -1 ≤ far ∧ far ≤ W.length
  | .hit h => HtOk W p h
def SdOk (W : List UInt8) (p : Int) (sd : Sd) : Prop := p ≤ sd.en ∧ sd.en ≤ W.length ∧ sd.tree.length ≤ lim ∧ 0 ≤ sd.lev ∧ sd.lev ≤ 99 ∧ ∀ t ∈ sd.tree, twS t
def LvOk (W : List UInt8) (L : Lv) : Prop := ∀ x ∈ L, 0 ≤ x.1.1 ∧ x.1.1 < 32 ∧ 0 ≤ x.1.2 ∧ x.1.2 ≤ W.length ∧ ∀ sd, x.2 = some sd → SdOk W x.1.2 sd
theorem upTo_ok (W : List UInt8) {p e : Nat} (h : p ≤ e) (he : e ≤ W.length) : HtOk W p (upTo e) := ⟨h, he, Int.le_refl _, by show (-1 : Int) ≤ _; omega, Nat.zero_le _, Nat.le_refl _, fun t ht => by simp [upTo] at ht⟩
theorem then_ok {W : List UInt8} {p : Nat} {a b g : Ht} (ha : HtOk W p a) (hb : HtOk W a.en b) (h : a.then b = some g) : HtOk W p g := by
  unfold Ht.then at h
  split at h
  · rename_i hl
    simp only [Option.some.injEq] at h
    subst h
    obtain ⟨a1, a2, a3, a4, a5, a6, a7⟩ := ha
    obtain ⟨b1, b2, b3, b4, b5, b6, b7⟩ := hb
    refine ⟨Nat.le_trans a1 b1, b2, by simp only; omega, by simp only; omega, by simpa using hl, by simp; omega, fun t ht => ?_⟩
    rcases List.mem_append.1 ht with h | h
    · exact a7 t h
    · exact b7 t h
  · cases h
theorem tried_ok {W : List UInt8} {p : Nat} {a : Ht} {far : Int} (ha : HtOk W p a) (h1 : -1 ≤ far) (h2 : far ≤ W.length) : HtOk W p (a.tried far) := by
  obtain ⟨a1, a2, a3, a4, a5, a6, a7⟩ := ha
  exact ⟨a1, a2, by simp only [Ht.tried]; omega, by simp only [Ht.tried]; omega, a5, a6, a7⟩
theorem called_ok {W : List UInt8} {p : Nat} {a g : Ht} {r lev : Int} (hW : W.length ≤ 2048) (ha : HtOk W p a) (hr : 0 ≤ r ∧ r < 32) (hl : 0 ≤ lev ∧ lev ≤ 99) (h : a.called r lev p = some g) : HtOk W p g := by
  unfold Ht.called at h
  split at h
  · rename_i hlm
    simp only [Option.some.injEq] at h
    subst h
    obtain ⟨a1, a2, a3, a4, a5, a6, a7⟩ := ha
    unfold lim at a5
    refine ⟨a1, a2, a3, a4, by simpa using hlm, by simp, fun t ht => ?_⟩
    rcases List.mem_cons.1 ht with rfl | h
    · exact ⟨hr.1, hr.2, hl.1, hl.2, by simp only; omega, by simp only; omega, by simp only; omega, by simp only; omega, by simp only; omega⟩
    · exact a7 t h
  · cases h
theorem LvOk.push {W : List UInt8} {L : Lv} (h : LvOk W L) {r : Int} {p : Nat} (hr : 0 ≤ r ∧ r < 32) (hp : p ≤ W.length) {o : Option Sd} (ho : ∀ sd, o = some sd → SdOk W p sd) : LvOk W (L ++ [((r, (p : Int)), o)]) := by
  intro x hx
  rcases List.mem_append.1 hx with hx | hx
  · exact h x hx
  · simp only [List.mem_singleton] at hx
    subst hx
    exact ⟨hr.1, hr.2, by simp only; omega, by simp only; omega, ho⟩
theorem HtOk.sd {W : List UInt8} {p : Nat} {h : Ht} (hh : HtOk W p h) {lev : Int} (hl : 0 ≤ lev ∧ lev ≤ 99) : SdOk W p ⟨h.en, lev, h.forest⟩ :=
  ⟨by simp only; have := hh.1; omega, hh.2.1, hh.2.2.2.2.1, hl.1, hl.2, hh.2.2.2.2.2.2⟩
theorem text_ok (W : List UInt8) : ∀ (t : List UInt8) (p q : Nat), q ≤ p → p ≤ W.length → FoOk W q (textAt W t p)
  | [], p, q, hq, hp => upTo_ok W hq hp
  | c :: t, p, q, hq, hp => by
    unfold textAt
    split
    · rename_i h
      have : p < W.length := (List.getElem?_eq_some_iff.1 h).1
      exact text_ok W t (p + 1) q (by omega) (by omega)
    · exact ⟨by omega, by omega⟩
theorem one_ok (W : List UInt8) (x : Nd) (p : Nat) (hp : p ≤ W.length) : FoOk W p (oneAt W x p) := by
  unfold oneAt
  split
  · exact ⟨by omega, by omega⟩
  · rename_i c h
    have : p < W.length := (List.getElem?_eq_some_iff.1 h).1
    split
    · exact ⟨by omega, by omega⟩
    · exact upTo_ok W (by omega) (by omega)
section
variable {E : Nat → Nat → Lv → Ss → Rs} {W : List UInt8}
/-- what is asked of the nodes below. -/
def EOk (W : List UInt8) (E : Nat → Nat → Lv → Ss → Rs) : Prop := ∀ n p L s r s', p ≤ W.length → LvOk W L → E n p L s = some (r, s') → FoOk W p r
theorem seq_ok (hE : EOk W E) {L : Lv} (hL : LvOk W L) : ∀ (ks : List Int) (p : Nat) (f : Ht) (s : Ss) (r : Fo) (s' : Ss), HtOk W p f → seqE E L ks f s = some (r, s') → FoOk W p r
  | [], p, f, s, r, s', hf, h => by
    simp only [seqE, Option.some.injEq, Prod.mk.injEq] at h
    obtain ⟨rfl, -⟩ := h
    exact hf
  | k :: ks, p, f, s, r, s', hf, h => by
    unfold seqE at h
    cases h1 : E k.toNat f.en L s with
    | none => rw [h1] at h; cases h
    | some q =>
      obtain ⟨o, s1⟩ := q
      have hq := hE _ _ _ _ _ _ hf.2.1 hL h1
      rw [h1] at h
      cases o with
      | miss far =>
        simp only [Option.some.injEq, Prod.mk.injEq] at h
        obtain ⟨rfl, -⟩ := h
        have h1 := hf.2.2.1
        have h2 := hf.2.2.2.1
        obtain ⟨h3, h4⟩ := hq
        exact ⟨by omega, by omega⟩
      | hit g =>
        simp only at h
        cases h2 : f.then g with
        | none => rw [h2] at h; cases h
        | some g' =>
          rw [h2] at h
          exact seq_ok hE hL ks p g' s1 r s' (then_ok hf hq h2) h
theorem alt_ok (hE : EOk W E) {L : Lv} (hL : LvOk W L) {p : Nat} (hp : p ≤ W.length) : ∀ (ks : List Int) (far : Int) (s : Ss) (r : Fo) (s' : Ss), -1 ≤ far → far ≤ W.length → altE E L p ks far s = some (r, s') → FoOk W p r
  | [], far, s, r, s', h1, h2, h => by
    simp only [altE, Option.some.injEq, Prod.mk.injEq] at h
    obtain ⟨rfl, -⟩ := h
    exact ⟨h1, h2⟩
  | k :: ks, far, s, r, s', h1, h2, h => by
    unfold altE at h
    cases h3 : E k.toNat p L s with
    | none => rw [h3] at h; cases h
    | some q =>
      obtain ⟨o, s1⟩ := q
      have hq := hE _ _ _ _ _ _ hp hL h3
      rw [h3] at h
      cases o with
      | miss fr =>
        obtain ⟨h4, h5⟩ := hq
        exact alt_ok hE hL hp ks _ s1 r s' (by omega) (by omega) h
      | hit g =>
        simp only [Option.some.injEq, Prod.mk.injEq] at h
        obtain ⟨rfl, -⟩ := h
        have h4 := hq.2.2.1
        have h5 := hq.2.2.2.1
        exact tried_ok hq (by omega) (by omega)
theorem more_ok (hE : EOk W E) {L : Lv} (hL : LvOk W L) {k : Nat} : ∀ (n p : Nat) (f : Ht) (s : Ss) (r : Fo) (s' : Ss), HtOk W p f → moreE E L k n f s = some (r, s') → FoOk W p r
  | 0, p, f, s, r, s', hf, h => by cases h
  | n + 1, p, f, s, r, s', hf, h => by
    unfold moreE at h
    cases h1 : E k f.en L s with
    | none => rw [h1] at h; cases h
    | some q =>
      obtain ⟨o, s1⟩ := q
      have hq := hE _ _ _ _ _ _ hf.2.1 hL h1
      rw [h1] at h
      cases o with
      | miss far =>
        simp only [Option.some.injEq, Prod.mk.injEq] at h
        obtain ⟨rfl, -⟩ := h
        exact tried_ok hf hq.1 hq.2
      | hit g =>
        simp only at h
        split at h
        · simp only [Option.some.injEq, Prod.mk.injEq] at h
          obtain ⟨rfl, -⟩ := h
          exact tried_ok hf hq.2.2.1 hq.2.2.2.1
        · cases h2 : f.then g with
          | none => rw [h2] at h; cases h
          | some g' =>
            rw [h2] at h
            exact more_ok hE hL n p g' s1 r s' (then_ok hf hq h2) h
theorem grow_ok (hE : EOk W E) {doc : Bool} {L : Lv} (hL : LvOk W L) {r lev : Int} {p body : Nat} (hr : 0 ≤ r ∧ r < 32) (hl : 0 ≤ lev ∧ lev ≤ 99) (hp : p ≤ W.length) : ∀ (n : Nat) (last next : Ht) (far : Int) (s : Ss) (g : Ht) (fr : Int) (s' : Ss), HtOk W p last → HtOk W p next → -1 ≤ far → far ≤ W.length → growE E doc L r lev p body n last next far s = some (g, fr, s') → HtOk W p g ∧ -1 ≤ fr ∧ fr ≤ W.length
  | 0, last, next, far, s, g, fr, s', h1, h2, h3, h4, h => by cases h
  | n + 1, last, next, far, s, g, fr, s', h1, h2, h3, h4, h => by
    unfold growE at h
    split at h
    · simp only [Option.some.injEq, Prod.mk.injEq] at h
      obtain ⟨rfl, rfl, -⟩ := h
      exact ⟨h1, h3, h4⟩
    · cases h5 : E body p (L ++ [((r, (p : Int)), some ⟨next.en, lev, next.forest⟩)]) s with
      | none => rw [h5] at h; cases h
      | some q =>
        obtain ⟨o, s1⟩ := q
        have hq := hE _ _ _ _ _ _ hp (hL.push hr hp (fun sd e => by cases e; exact h2.sd hl)) h5
        rw [h5] at h
        cases o with
        | miss far =>
          simp only [Option.some.injEq, Prod.mk.injEq] at h
          obtain ⟨rfl, rfl, -⟩ := h
          obtain ⟨h6, h7⟩ := hq
          exact ⟨h2, by omega, by omega⟩
        | hit x =>
          have h6 := hq.2.2.1
          have h7 := hq.2.2.2.1
          simp only at h
          split at h
          · simp only [Option.some.injEq, Prod.mk.injEq] at h
            obtain ⟨rfl, rfl, -⟩ := h
            exact ⟨h2, by omega, by omega⟩
          · exact grow_ok hE hL hr hl hp n next x _ s1 g fr s' h2 hq (by omega) (by omega) h
theorem fresh_ok (hE : EOk W E) (hW : W.length ≤ 2048) {doc : Bool} {L : Lv} (hL : LvOk W L) {r lev : Int} {p body n : Nat} (hr : 0 ≤ r ∧ r < 32) (hl : 0 ≤ lev ∧ lev ≤ 99) (hp : p ≤ W.length) {s : Ss} {o : Fo} {s' : Ss} (h : freshE E doc L r lev p body n s = some (o, s')) : FoOk W p o := by
  unfold freshE at h
  cases h5 : E body p (L ++ [((r, (p : Int)), none)]) s with
  | none => rw [h5] at h; cases h
  | some q =>
    obtain ⟨q, s1⟩ := q
    have hq := hE _ _ _ _ _ _ hp (hL.push hr hp (fun sd e => by cases e)) h5
    rw [h5] at h
    cases q with
    | miss far =>
      simp only [Option.some.injEq, Prod.mk.injEq] at h
      obtain ⟨rfl, -⟩ := h
      exact hq
    | hit x =>
      simp only at h
      cases h6 : growE E doc L r lev p body n x x x.far s1 with
      | none => rw [h6] at h; cases h
      | some g =>
        obtain ⟨g, far, s2⟩ := g
        obtain ⟨k1, k2, k3⟩ := grow_ok hE hL hr hl hp n x x x.far s1 g far s2 hq hq hq.2.2.1 hq.2.2.2.1 h6
        rw [h6] at h
        simp only at h
        cases h7 : (g.tried far).called r lev p with
        | none => rw [h7] at h; cases h
        | some g' =>
          rw [h7] at h
          simp only [Option.some.injEq, Prod.mk.injEq] at h
          obtain ⟨rfl, -⟩ := h
          exact called_ok hW (tried_ok k1 k2 k3) hr hl h7
end
theorem top_le (l : List Tw) : (topR l).length ≤ l.length := by
  unfold topR
  split
  · rename_i h
    obtain ⟨rs, hf⟩ := (rightB_iff l).1 h
    have := hf.rootsL rfl l.length (by have := hf.len_le; omega)
    rw [this]
    have := hf.len_le
    simp; omega
  · simp
theorem lookup_mem {L : Lv} {k : Pr} {o : Option Sd} (h : L.lookup k = some o) : (k, o) ∈ L := by
  induction L with
  | nil => simp at h
  | cons x L ih =>
    obtain ⟨a, b⟩ := x
    rw [List.lookup_cons] at h
    split at h
    · rename_i he
      simp only [beq_iff_eq] at he
      simp only [Option.some.injEq] at h
      subst he; subst h
      exact List.mem_cons_self
    · exact List.mem_cons_of_mem _ (ih h)
theorem call_ok {E : Nat → Nat → Lv → Ss → Rs} {W : List UInt8} (hE : EOk W E) (hW : W.length ≤ 2048) {doc : Bool} {R : List Ru} {L : Lv} (hL : LvOk W L) {r lev : Int} {p n : Nat} (hr : 0 ≤ r ∧ r < 32) (hl : 0 ≤ lev ∧ lev ≤ 99) (hp : p ≤ W.length) {s : Ss} {o : Fo} {s' : Ss} (h : callE E doc R L r lev p n s = some (o, s')) : FoOk W p o := by
  unfold callE at h
  split at h
  · simp only [Option.some.injEq, Prod.mk.injEq] at h
    obtain ⟨rfl, -⟩ := h
    exact ⟨by omega, by omega⟩
  · rename_i sd hf
    obtain ⟨-, -, -, -, hs⟩ := hL _ (lookup_mem hf)
    obtain ⟨h1, h2, h3, h4, h5, h6⟩ := hs sd rfl
    split at h
    · split at h
      · cases h
      · rename_i g hc
        simp only [Option.some.injEq, Prod.mk.injEq] at h
        obtain ⟨rfl, -⟩ := h
        exact called_ok hW (a := ⟨sd.en, -1, (topR sd.tree).length, sd.tree⟩) ⟨by simp only at h1 ⊢; omega, h2, by simp only; omega, by simp only; omega, h3, top_le _, h6⟩ hr hl hc
    · simp only [Option.some.injEq, Prod.mk.injEq] at h
      obtain ⟨rfl, -⟩ := h
      exact ⟨by omega, by omega⟩
  · split at h
    · cases h
    · exact fresh_ok hE hW hL hr hl hp h
theorem ev_ok {doc : Bool} {R : List Ru} {N : List Nd} {W : List UInt8} (hG : GrV R N) (hW : W.length ≤ 2048) : ∀ f, EOk W (ev doc R N W f)
  | 0 => fun n p L s r s' hp hL h => by
    simp only [ev, Option.some.injEq, Prod.mk.injEq] at h
    obtain ⟨rfl, -⟩ := h
    exact ⟨by omega, by omega⟩
  | f + 1 => fun n p L s r s' hp hL h => by
    have hE := ev_ok (doc := doc) hG hW f
    unfold ev at h
    split at h
    · simp only [Option.some.injEq, Prod.mk.injEq] at h
      obtain ⟨rfl, -⟩ := h
      exact ⟨by omega, by omega⟩
    · split at h
      · cases h
      · rename_i x hx
        have hxm : x ∈ N := List.mem_of_getElem? hx
        unfold nodeE at h
        split at h
        · simp only [Option.some.injEq, Prod.mk.injEq] at h
          obtain ⟨rfl, -⟩ := h
          exact upTo_ok W (Nat.le_refl _) hp
        split at h
        · simp only [Option.some.injEq, Prod.mk.injEq] at h
          obtain ⟨rfl, -⟩ := h
          exact one_ok W x p hp
        split at h
        · simp only [Option.some.injEq, Prod.mk.injEq] at h
          obtain ⟨rfl, -⟩ := h
          exact text_ok W _ p p (Nat.le_refl _) hp
        split at h
        · rename_i h5
          obtain ⟨c1, c2, c3, c4⟩ := hG.call x hxm h5
          exact call_ok hE hW hL ⟨c1, by have := hG.few; omega⟩ ⟨c3, c4⟩ hp h
        split at h
        · exact seq_ok hE hL _ p _ _ _ _ (upTo_ok W (Nat.le_refl _) hp) h
        split at h
        · exact alt_ok hE hL hp _ _ _ _ _ (by omega) (by omega) h
        split at h
        · cases h
        split at h
        · exact more_ok hE hL _ p _ _ _ _ (upTo_ok W (Nat.le_refl _) hp) h
        split at h
        · split at h
          · cases h
          · rename_i hm
            simp only [Option.some.injEq, Prod.mk.injEq] at h
            obtain ⟨rfl, -⟩ := h
            exact hE _ _ _ _ _ _ hp hL hm
          · rename_i hm
            exact more_ok hE hL _ p _ _ _ _ (hE _ _ _ _ _ _ hp hL hm) h
        split at h
        all_goals
          simp only [Option.map_eq_some_iff] at h
          obtain ⟨⟨o, s1⟩, hm, he⟩ := h
          have hq := hE _ _ _ _ _ _ hp hL hm
          cases o with
          | miss far =>
            first
              | (simp only [optE, Prod.mk.injEq] at he; obtain ⟨rfl, -⟩ := he; exact tried_ok (upTo_ok W (Nat.le_refl _) hp) hq.1 hq.2)
              | (simp only [lookE, Prod.mk.injEq] at he; obtain ⟨rfl, -⟩ := he; split; exact hq; exact tried_ok (upTo_ok W (Nat.le_refl _) hp) hq.1 hq.2)
          | hit g =>
            first
              | (simp only [optE, Prod.mk.injEq] at he; obtain ⟨rfl, -⟩ := he; exact hq)
              | (simp only [lookE, Prod.mk.injEq] at he; obtain ⟨rfl, -⟩ := he; split; exact tried_ok (upTo_ok W (Nat.le_refl _) hp) hq.2.2.1 hq.2.2.2.1; exact ⟨hq.2.2.1, hq.2.2.2.1⟩)
end Go.Proofs.YtkimkghldilliaaGreat
