import Derived.Test.YtkimkghldilliaaGreatMnL
import Derived.Test.YtkimkghldilliaaGreatAwKm
import Derived.Test.YtkimkghldilliaaGreatMatm
namespace Go.Proofs.YtkimkghldilliaaGreat
open Go.RowKit Go.Lib

/-- what is known of a node's match of a length: nothing read, then so many twigs; else a times the length and so many. ow: the node may also give just its rule's seed. -/
structure Ce where
  be : Int
  de : Option Int
  ow : Option Int
def ceAt (C : List Ce) (n : Nat) : Ce := C.getD n ⟨0, none, none⟩
def leO : Option Int → Option Int → Bool
  | none, _ => true
  | some x, some y => decide (x ≤ y)
  | some _, none => false
def addO : Option Int → Option Int → Option Int
  | some x, some y => some (x + y)
  | _, _ => none
def maxO : Option Int → Option Int → Option Int
  | none, b => b
  | a, none => a
  | some x, some y => some (max x y)
def nxO (e n : Option Int) (c : Ce) : Option Int := maxO (maxO (addO n (some c.be)) (addO n c.de)) (addO e (some c.be))
def Good (al : Int) (c : Ce) (l s : Int) : Prop := (l = 0 → ∃ d, c.de = some d ∧ s ≤ d) ∧ (0 < l → s ≤ al * l + c.be)
def Acc (al : Int) (e n : Option Int) (l s : Int) : Prop := (l = 0 → ∃ d, e = some d ∧ s ≤ d) ∧ (0 < l → ∃ b, n = some b ∧ s ≤ al * l + b)
theorem leO_some {x : Int} {b : Option Int} (h : leO (some x) b = true) : ∃ y, b = some y ∧ x ≤ y := by
  cases b with
  | none => cases h
  | some y => exact ⟨y, rfl, of_decide_eq_true h⟩
theorem maxO_left {x : Int} {a b : Option Int} (h : a = some x) : ∃ y, maxO a b = some y ∧ x ≤ y := by
  subst h
  cases b with
  | none => exact ⟨x, rfl, Int.le_refl _⟩
  | some y => exact ⟨max x y, rfl, by omega⟩
theorem maxO_right {y : Int} {a b : Option Int} (h : b = some y) : ∃ z, maxO a b = some z ∧ y ≤ z := by
  subst h
  cases a with
  | none => exact ⟨y, rfl, Int.le_refl _⟩
  | some x => exact ⟨max x y, rfl, by omega⟩
theorem acc_zero (al : Int) : Acc al (some 0) none 0 0 := ⟨fun _ => ⟨0, rfl, Int.le_refl _⟩, fun h => absurd h (by omega)⟩
theorem acc_step {al : Int} {e n : Option Int} {c : Ce} {l1 s1 l2 s2 : Int} (h : Acc al e n l1 s1) (g : Good al c l2 s2) (h1 : 0 ≤ l1) (h2 : 0 ≤ l2) : Acc al (addO e c.de) (nxO e n c) (l1 + l2) (s1 + s2) := by
  have hm : al * (l1 + l2) = al * l1 + al * l2 := Int.mul_add _ _ _
  refine ⟨fun hl => ?_, fun hl => ?_⟩
  · obtain ⟨d1, e1, k1⟩ := h.1 (by omega)
    obtain ⟨d2, e2, k2⟩ := g.1 (by omega)
    exact ⟨d1 + d2, by rw [e1, e2]; rfl, by omega⟩
  · by_cases z1 : l1 = 0
    · obtain ⟨d1, e1, k1⟩ := h.1 z1
      have k2 := g.2 (by omega)
      obtain ⟨y, hy, hle⟩ := maxO_right (a := maxO (addO n (some c.be)) (addO n c.de)) (b := addO e (some c.be)) (y := d1 + c.be) (by rw [e1]; rfl)
      have hz : al * l1 = 0 := by rw [z1]; simp
      exact ⟨y, hy, by omega⟩
    · obtain ⟨b1, e1, k1⟩ := h.2 (by omega)
      by_cases z2 : l2 = 0
      · obtain ⟨d2, e2, k2⟩ := g.1 z2
        obtain ⟨y, hy, hle⟩ := maxO_right (a := addO n (some c.be)) (b := addO n c.de) (y := b1 + d2) (by rw [e1, e2]; rfl)
        obtain ⟨z, hz, hle2⟩ := maxO_left (b := addO e (some c.be)) hy
        have hz2 : al * l2 = 0 := by rw [z2]; simp
        exact ⟨z, hz, by omega⟩
      · have k2 := g.2 (by omega)
        obtain ⟨y, hy, hle⟩ := maxO_left (a := addO n (some c.be)) (b := addO n c.de) (x := b1 + c.be) (by rw [e1]; rfl)
        obtain ⟨z, hz, hle2⟩ := maxO_left (b := addO e (some c.be)) hy
        exact ⟨z, hz, by omega⟩
theorem acc_good {al : Int} {e n : Option Int} {c : Ce} {l s : Int} (h : Acc al e n l s) (h1 : leO e c.de = true) (h2 : leO n (some c.be) = true) : Good al c l s := by
  refine ⟨fun hl => ?_, fun hl => ?_⟩
  · obtain ⟨d, e1, k⟩ := h.1 hl
    rw [e1] at h1
    obtain ⟨y, hy, hle⟩ := leO_some h1
    exact ⟨y, hy, by omega⟩
  · obtain ⟨b, e1, k⟩ := h.2 hl
    rw [e1] at h2
    obtain ⟨y, hy, hle⟩ := leO_some h2
    simp only [Option.some.injEq] at hy
    omega
/-- smaller bounds. -/
theorem good_le {al : Int} {a c : Ce} {l s : Int} (h : Good al a l s) (h1 : leO a.de c.de = true) (h2 : a.be ≤ c.be) : Good al c l s := by
  refine ⟨fun hl => ?_, fun hl => by have := h.2 hl; omega⟩
  obtain ⟨d, e1, k⟩ := h.1 hl
  rw [e1] at h1
  obtain ⟨y, hy, hle⟩ := leO_some h1
  exact ⟨y, hy, by omega⟩
theorem good_empty {al : Int} {c : Ce} (h : leO (some 0) c.de = true) : Good al c 0 0 := by
  obtain ⟨y, hy, hle⟩ := leO_some h
  exact ⟨fun _ => ⟨y, hy, hle⟩, fun h => absurd h (by omega)⟩
/-- the row of kids, with bounds of all that is ahead. -/
def seqC (C : List Ce) : List Int → Option Int → Option Int → Option (Option Int × Option Int)
  | [], e, n => some (e, n)
  | k :: ks, e, n => if leO (addO e (ceAt C k.toNat).de) (some 1000) && leO (nxO e n (ceAt C k.toNat)) (some 1000) then seqC C ks (addO e (ceAt C k.toNat).de) (nxO e n (ceAt C k.toNat)) else none
def kidC (C : List Ce) (k : Int) : Bool := (ceAt C k.toNat).ow.isNone
/-- a node keeps its bounds. -/
def nodeC (al : Int) (R : List Ru) (N : List Nd) (C : List Ce) (c : Ce) (x : Nd) : Bool :=
  if x.kind = 1 then leO (some 0) c.de && c.ow.isNone
  else if x.kind = 2 ∨ x.kind = 3 then decide (0 ≤ al + c.be) && c.ow.isNone
  else if x.kind = 4 then decide (0 < x.text.size) && decide (0 ≤ al + c.be) && c.ow.isNone
  else if x.kind = 5 then c.ow.isNone && match R[x.rule.toNat]? with
    | none => false
    | some ru => leO (addO (ceAt C ru.body.toNat).de (some 1)) c.de && decide ((ceAt C ru.body.toNat).be + 1 ≤ c.be)
  else if x.kind = 6 then x.kids.all (kidC C) && match c.ow with
    | none => (match seqC C x.kids (some 0) none with
      | none => false
      | some (e, n) => leO e c.de && leO n (some c.be))
    | some r => (match x.kids with
      | [a, b] => (match N[b.toNat]?, R[r.toNat]? with
        | some y, some _ => decide (y.kind = 5) && decide (y.rule = r) && decide ((ceAt C b.toNat).de = none) && decide ((ceAt C a.toNat).be + (ceAt C b.toNat).be ≤ c.be) && leO (ceAt C a.toNat).de (some 10)
        | _, _ => false)
      | _ => false)
  else if x.kind = 7 then x.kids.all fun k => leO (ceAt C k.toNat).de c.de && decide ((ceAt C k.toNat).be ≤ c.be) && (decide ((ceAt C k.toNat).ow = none) || decide ((ceAt C k.toNat).ow = c.ow))
  else c.ow.isNone && match x.kids with
    | [] => false
    | k :: _ => kidC C k &&
      if x.kind = 8 then decide ((ceAt C k.toNat).be ≤ 0) && decide ((ceAt C k.toNat).be ≤ c.be) && leO (some 0) c.de
      else if x.kind = 9 then decide ((ceAt C k.toNat).be ≤ 0) && decide ((ceAt C k.toNat).be ≤ c.be) && leO (ceAt C k.toNat).de c.de && leO (addO (ceAt C k.toNat).de (some (ceAt C k.toNat).be)) (some c.be) && leO (ceAt C k.toNat).de (some 100)
      else if x.kind = 10 then decide ((ceAt C k.toNat).be ≤ c.be) && leO (ceAt C k.toNat).de c.de && leO (some 0) c.de
      else leO (some 0) c.de
/-- a grammar keeps its bounds. -/
structure CeOk (al : Int) (R : List Ru) (N : List Nd) (C : List Ce) : Prop where
  alr : 0 ≤ al ∧ al ≤ 100
  node : ∀ n x, N[n]? = some x → nodeC al R N C (ceAt C n) x = true
  small : ∀ n, (ceAt C n).be ≤ 100 ∧ leO (ceAt C n).de (some 100) = true
  body : ∀ (r : Nat) ru, R[r]? = some ru → ru.body.toNat < N.length ∧ ((ceAt C ru.body.toNat).ow = none ∨ (ceAt C ru.body.toNat).ow = some (r : Int))
/-- what is live keeps its bounds. -/
def LG (al : Int) (R : List Ru) (C : List Ce) (W : List UInt8) (L : Lv) : Prop := ∀ x ∈ L, 0 ≤ x.1.1 ∧ ∀ sd, x.2 = some sd → ∃ ru, R[x.1.1.toNat]? = some ru ∧ x.1.2 ≤ sd.en ∧ sd.en ≤ W.length ∧ Good al (ceAt C ru.body.toNat) ((sd.en : Int) - x.1.2) sd.tree.length
def PreC (c : Ce) (p : Nat) (L : Lv) : Prop := ∀ r, c.ow = some r → ∃ o, L.lookup (r, (p : Int)) = some o
/-- a match keeps its bounds, or is the seed at most. -/
def GoodR (al : Int) (c : Ce) (p : Nat) (L : Lv) (h : Ht) : Prop := Good al c ((h.en : Int) - p) h.forest.length ∨ ∃ r sd, c.ow = some r ∧ L.lookup (r, (p : Int)) = some (some sd) ∧ h.en = sd.en ∧ h.forest.length ≤ 300000
def HitG (al : Int) (c : Ce) (W : List UInt8) (p : Nat) (L : Lv) (r : Fo) : Prop := ∀ h, r = .hit h → p ≤ h.en ∧ h.en ≤ W.length ∧ GoodR al c p L h
theorem good_small {al : Int} {R : List Ru} {N : List Nd} {C : List Ce} (hC : CeOk al R N C) {W : List UInt8} (hW : W.length ≤ 2048) {n : Nat} {l s : Int} (h : Good al (ceAt C n) l s) (h1 : 0 ≤ l) (h2 : l ≤ W.length) : s ≤ 204900 := by
  by_cases hl : l = 0
  · obtain ⟨d, e, k⟩ := h.1 hl
    have := (hC.small n).2
    rw [e] at this
    obtain ⟨y, hy, hle⟩ := leO_some this
    simp only [Option.some.injEq] at hy
    omega
  · have h3 := h.2 (by omega)
    have h4 := (hC.small n).1
    have h5 : al * l ≤ 100 * 2048 := Int.mul_le_mul hC.alr.2 (by omega) h1 (by omega)
    omega
theorem goodR_small {al : Int} {R : List Ru} {N : List Nd} {C : List Ce} (hC : CeOk al R N C) {W : List UInt8} (hW : W.length ≤ 2048) {n p : Nat} {L : Lv} {h : Ht} (hg : GoodR al (ceAt C n) p L h) (h1 : p ≤ h.en) (h2 : h.en ≤ W.length) : h.forest.length ≤ 300000 := by
  rcases hg with hg | ⟨r, sd, -, -, -, hg⟩
  · have := good_small hC hW hg (by omega) (by omega)
    omega
  · exact hg
theorem goodR_none {al : Int} {c : Ce} {p : Nat} {L : Lv} {h : Ht} (hg : GoodR al c p L h) (ho : c.ow = none) : Good al c ((h.en : Int) - p) h.forest.length := by
  rcases hg with hg | ⟨r, sd, e, -⟩
  · exact hg
  · rw [ho] at e; cases e
/-- what is asked of the nodes below: fuel f. -/
def SeedC (N : List Nd) (n p : Nat) (L : Lv) (r : Fo) : Prop := ∀ x, N[n]? = some x → x.kind = 5 → ∀ o, L.lookup (x.rule, (p : Int)) = some o → ∀ h, r = .hit h → ∃ sd, o = some sd ∧ h.en = sd.en ∧ h.forest.length = sd.tree.length + 1
def ES (al : Int) (N : List Nd) (C : List Ce) (R : List Ru) (W : List UInt8) (f : Nat) (E : Nat → Nat → Lv → Ss → Rs) : Prop := ∀ n p L s, s.left ≤ f → n < N.length → p ≤ W.length → LG al R C W L → PreC (ceAt C n) p L → ∃ r s', E n p L s = some (r, s') ∧ s'.left ≤ s.left ∧ (∀ h, r = .hit h → s'.left < s.left) ∧ HitG al (ceAt C n) W p L r ∧ SeedC N n p L r
theorem pre_none {c : Ce} {p : Nat} {L : Lv} (h : c.ow = none) : PreC c p L := fun r e => by rw [h] at e; cases e
theorem kidC_none {C : List Ce} {k : Int} (h : kidC C k = true) : (ceAt C k.toNat).ow = none := by
  unfold kidC at h
  simpa using h
section
variable {al : Int} {R : List Ru} {N : List Nd} {C : List Ce} {W : List UInt8} {f : Nat} {E : Nat → Nat → Lv → Ss → Rs}
theorem then_some {a b : Ht} (h : a.forest.length + b.forest.length ≤ lim) : a.then b = some ⟨b.en, max a.far b.far, a.roots + b.roots, a.forest ++ b.forest⟩ := by
  unfold Ht.then
  rw [if_pos h]
theorem seq_some (hE : ES al N C R W f E) (hC : CeOk al R N C) (hW : W.length ≤ 2048) {L : Lv} (hL : LG al R C W L) {p : Nat} : ∀ (ks : List Int) (g : Ht) (s : Ss) (e n e2 n2 : Option Int), s.left ≤ f → (∀ k ∈ ks, k.toNat < N.length ∧ (ceAt C k.toNat).ow = none) → p ≤ g.en → g.en ≤ W.length → Acc al e n ((g.en : Int) - p) g.forest.length → leO e (some 1000) = true → leO n (some 1000) = true → seqC C ks e n = some (e2, n2) →
    ∃ r s', seqE E L ks g s = some (r, s') ∧ s'.left ≤ s.left ∧ ∀ h, r = .hit h → p ≤ h.en ∧ h.en ≤ W.length ∧ Acc al e2 n2 ((h.en : Int) - p) h.forest.length
  | [], g, s, e, n, e2, n2, hs, hk, h1, h2, hA, b1, b2, hq => by
    simp only [seqC, Option.some.injEq, Prod.mk.injEq] at hq
    obtain ⟨rfl, rfl⟩ := hq
    exact ⟨_, _, rfl, Nat.le_refl _, fun h e => by cases e; exact ⟨h1, h2, hA⟩⟩
  | k :: ks, g, s, e, n, e2, n2, hs, hk, h1, h2, hA, b1, b2, hq => by
    unfold seqC at hq
    split at hq
    · rename_i hb
      simp only [Bool.and_eq_true] at hb
      obtain ⟨hk1, hk2⟩ := hk k (by simp)
      obtain ⟨r, s1, he, hl, -, hg, -⟩ := hE k.toNat g.en L s hs hk1 h2 hL (pre_none hk2)
      unfold seqE
      rw [he]
      cases r with
      | miss far => exact ⟨_, _, rfl, hl, fun h e => by cases e⟩
      | hit q =>
        obtain ⟨q1, q2, q3⟩ := hg q rfl
        have q4 := goodR_none q3 hk2
        have hsz := good_small hC hW q4 (by omega) (by omega)
        have hA2 := acc_step hA q4 (by omega) (by omega)
        rw [show ((g.en : Int) - p) + ((q.en : Int) - g.en) = (q.en : Int) - p by omega] at hA2
        have hsg : (g.forest.length : Int) ≤ 206000 := by
          by_cases hl0 : (g.en : Int) - p = 0
          · obtain ⟨d, e1, k1⟩ := hA.1 hl0
            rw [e1] at b1
            obtain ⟨y, hy, hle⟩ := leO_some b1
            simp only [Option.some.injEq] at hy
            omega
          · obtain ⟨d, e1, k1⟩ := hA.2 (by omega)
            rw [e1] at b2
            obtain ⟨y, hy, hle⟩ := leO_some b2
            simp only [Option.some.injEq] at hy
            have h5 : al * ((g.en : Int) - p) ≤ 100 * 2048 := Int.mul_le_mul hC.alr.2 (by omega) (by omega) (by omega)
            omega
        simp only
        rw [then_some (by unfold lim; omega)]
        simp only
        obtain ⟨r, s', e1, e2, e3⟩ := seq_some hE hC hW hL ks ⟨q.en, max g.far q.far, g.roots + q.roots, g.forest ++ q.forest⟩ s1 _ _ _ _ (by omega) (fun k hk' => hk k (by simp [hk'])) (show p ≤ q.en by omega) q2 (by simpa using hA2) hb.1 hb.2 hq
        exact ⟨r, s', e1, by omega, e3⟩
    · cases hq
theorem alt_some (hE : ES al N C R W f E) {L : Lv} (hL : LG al R C W L) {p : Nat} (hp : p ≤ W.length) {c : Ce} (hpre : PreC c p L) : ∀ (ks : List Int) (far : Int) (s : Ss), s.left ≤ f → (∀ k ∈ ks, k.toNat < N.length ∧ leO (ceAt C k.toNat).de c.de = true ∧ (ceAt C k.toNat).be ≤ c.be ∧ ((ceAt C k.toNat).ow = none ∨ (ceAt C k.toNat).ow = c.ow)) →
    ∃ r s', altE E L p ks far s = some (r, s') ∧ s'.left ≤ s.left ∧ HitG al c W p L r
  | [], far, s, hs, hk => ⟨_, _, rfl, Nat.le_refl _, fun h e => by cases e⟩
  | k :: ks, far, s, hs, hk => by
    obtain ⟨k1, k2, k3, k4⟩ := hk k (by simp)
    obtain ⟨r, s1, he, hl, -, hg, -⟩ := hE k.toNat p L s hs k1 hp hL (fun r e => by
      rcases k4 with k4 | k4
      · rw [k4] at e; cases e
      · exact hpre r (k4 ▸ e))
    unfold altE
    rw [he]
    cases r with
    | miss fr =>
      simp only
      obtain ⟨r, s', e1, e2, e3⟩ := alt_some hE hL hp hpre ks _ s1 (by omega) (fun k hk' => hk k (by simp [hk']))
      exact ⟨r, s', e1, by omega, e3⟩
    | hit q =>
      obtain ⟨q1, q2, q3⟩ := hg q rfl
      refine ⟨_, _, rfl, hl, fun h e => ?_⟩
      cases e
      refine ⟨q1, q2, ?_⟩
      rcases q3 with q3 | ⟨r, sd, e1, e2, e3, e4⟩
      · exact .inl (good_le q3 k2 k3)
      · rcases k4 with k4 | k4
        · rw [k4] at e1; cases e1
        · exact .inr ⟨r, sd, k4 ▸ e1, e2, e3, e4⟩
/-- over and over: what was there, and all behind it. -/
theorem more_some (hE : ES al N C R W f E) (hC : CeOk al R N C) (hW : W.length ≤ 2048) {L : Lv} (hL : LG al R C W L) {p k : Nat} (hk : k < N.length) (ho : (ceAt C k).ow = none) (hb : (ceAt C k).be ≤ 0) {e : Option Int} (he : leO e (some 100) = true) : ∀ (m : Nat) (g : Ht) (s : Ss), s.left ≤ f → s.left < m → p ≤ g.en → g.en ≤ W.length → Acc al e (maxO (some (ceAt C k).be) (addO e (some (ceAt C k).be))) ((g.en : Int) - p) g.forest.length →
    ∃ r s', moreE E L k m g s = some (r, s') ∧ s'.left ≤ s.left ∧ ∀ h, r = .hit h → p ≤ h.en ∧ h.en ≤ W.length ∧ Acc al e (maxO (some (ceAt C k).be) (addO e (some (ceAt C k).be))) ((h.en : Int) - p) h.forest.length
  | 0, g, s, hs, hm, h1, h2, hA => absurd hm (by omega)
  | m + 1, g, s, hs, hm, h1, h2, hA => by
    obtain ⟨r, s1, he1, hl, hlt, hg, -⟩ := hE k g.en L s hs hk h2 hL (pre_none ho)
    unfold moreE
    rw [he1]
    cases r with
    | miss far => exact ⟨_, _, rfl, hl, fun h e => by cases e; exact ⟨h1, h2, hA⟩⟩
    | hit q =>
      obtain ⟨q1, q2, q3⟩ := hg q rfl
      have q4 := goodR_none q3 ho
      simp only
      split
      · exact ⟨_, _, rfl, hl, fun h e => by cases e; exact ⟨h1, h2, hA⟩⟩
      · rename_i hne
        have hlt2 := hlt q rfl
        have hsz := good_small hC hW q4 (by omega) (by omega)
        have hq := q4.2 (by omega)
        have hmul : al * ((q.en : Int) - p) = al * ((g.en : Int) - p) + al * ((q.en : Int) - g.en) := by rw [← Int.mul_add]; congr 1; omega
        have hA2 : Acc al e (maxO (some (ceAt C k).be) (addO e (some (ceAt C k).be))) ((q.en : Int) - p) ((g.forest.length : Int) + q.forest.length) := by
          refine ⟨fun h => absurd h (by omega), fun _ => ?_⟩
          by_cases hl0 : (g.en : Int) - p = 0
          · obtain ⟨d, e1, k1⟩ := hA.1 hl0
            obtain ⟨y, hy, hle⟩ := maxO_right (a := some (ceAt C k).be) (b := addO e (some (ceAt C k).be)) (y := d + (ceAt C k).be) (by rw [e1]; rfl)
            have hz : al * ((g.en : Int) - p) = 0 := by rw [hl0]; simp
            exact ⟨y, hy, by omega⟩
          · obtain ⟨b, e1, k1⟩ := hA.2 (by omega)
            exact ⟨b, e1, by omega⟩
        have hsg : (g.forest.length : Int) ≤ 206000 := by
          by_cases hl0 : (g.en : Int) - p = 0
          · obtain ⟨d, e1, k1⟩ := hA.1 hl0
            rw [e1] at he
            obtain ⟨y, hy, hle⟩ := leO_some he
            simp only [Option.some.injEq] at hy
            omega
          · obtain ⟨d, e1, k1⟩ := hA.2 (by omega)
            have h5 : al * ((g.en : Int) - p) ≤ 100 * 2048 := Int.mul_le_mul hC.alr.2 (by omega) (by omega) (by omega)
            have h6 : d ≤ 100 := by
              cases e with
              | none =>
                simp only [addO, maxO, Option.some.injEq] at e1
                omega
              | some d0 =>
                have := of_decide_eq_true he
                simp only [addO, maxO, Option.some.injEq] at e1
                omega
            omega
        rw [then_some (by unfold lim; omega)]
        simp only
        obtain ⟨r, s', e1, e2, e3⟩ := more_some hE hC hW hL hk ho hb he m ⟨q.en, max g.far q.far, g.roots + q.roots, g.forest ++ q.forest⟩ s1 (by omega) (by omega) (show p ≤ q.en by omega) q2 (by simpa using hA2)
        exact ⟨r, s', e1, by omega, e3⟩
theorem lookup_push {L : Lv} {k : Pr} (h : L.lookup k = none) (v : Option Sd) : (L ++ [(k, v)]).lookup k = some v := by
  induction L with
  | nil => simp [List.lookup]
  | cons x L ih =>
    obtain ⟨a, b⟩ := x
    rw [List.cons_append, List.lookup_cons]
    rw [List.lookup_cons] at h
    split at h
    · cases h
    · exact ih h
theorem LG.push {L : Lv} (h : LG al R C W L) {r : Int} {p : Nat} (hr : 0 ≤ r) {o : Option Sd} (ho : ∀ sd, o = some sd → ∃ ru, R[r.toNat]? = some ru ∧ (p : Int) ≤ sd.en ∧ sd.en ≤ W.length ∧ Good al (ceAt C ru.body.toNat) ((sd.en : Int) - p) sd.tree.length) : LG al R C W (L ++ [((r, (p : Int)), o)]) := by
  intro x hx
  rcases List.mem_append.1 hx with hx | hx
  · exact h x hx
  · simp only [List.mem_singleton] at hx
    subst hx
    exact ⟨hr, ho⟩
theorem pre_push (hC : CeOk al R N C) {L : Lv} {r : Int} (hr : 0 ≤ r) {p : Nat} {ru : Ru} (hru : R[r.toNat]? = some ru) (hL : L.lookup (r, (p : Int)) = none) (o : Option Sd) : PreC (ceAt C ru.body.toNat) p (L ++ [((r, (p : Int)), o)]) := by
  intro q hq
  rcases (hC.body _ _ hru).2 with h | h
  · rw [h] at hq; cases hq
  · rw [h] at hq
    simp only [Option.some.injEq] at hq
    have : q = r := by omega
    subst this
    exact ⟨o, lookup_push hL o⟩
theorem grow_some (hE : ES al N C R W f E) (hC : CeOk al R N C) {doc : Bool} {L : Lv} (hL : LG al R C W L) {r lev : Int} (hr : 0 ≤ r) {p : Nat} (hp : p ≤ W.length) {ru : Ru} (hru : R[r.toNat]? = some ru) (hlk : L.lookup (r, (p : Int)) = none) : ∀ (m : Nat) (last next : Ht) (far : Int) (s : Ss), s.left ≤ f → s.left < m →
    (p ≤ last.en ∧ last.en ≤ W.length ∧ Good al (ceAt C ru.body.toNat) ((last.en : Int) - p) last.forest.length) → (p ≤ next.en ∧ next.en ≤ W.length ∧ Good al (ceAt C ru.body.toNat) ((next.en : Int) - p) next.forest.length) →
    ∃ g fr s', growE E doc L r lev p ru.body.toNat m last next far s = some (g, fr, s') ∧ s'.left ≤ s.left ∧ p ≤ g.en ∧ g.en ≤ W.length ∧ Good al (ceAt C ru.body.toNat) ((g.en : Int) - p) g.forest.length
  | 0, last, next, far, s, hs, hm, h1, h2 => absurd hm (by omega)
  | m + 1, last, next, far, s, hs, hm, h1, h2 => by
    unfold growE
    split
    · exact ⟨_, _, _, rfl, Nat.le_refl _, h1⟩
    · obtain ⟨o, s1, he, hl, hlt, hg, -⟩ := hE ru.body.toNat p (L ++ [((r, (p : Int)), some ⟨next.en, lev, next.forest⟩)]) s hs (hC.body _ _ hru).1 hp
        (hL.push hr (fun sd e => by cases e; exact ⟨ru, hru, by simp only; omega, h2.2.1, h2.2.2⟩)) (pre_push hC hr hru hlk _)
      rw [he]
      cases o with
      | miss fr => exact ⟨_, _, _, rfl, hl, h2⟩
      | hit q =>
        obtain ⟨q1, q2, q3⟩ := hg q rfl
        have q4 := hlt q rfl
        simp only
        split
        · exact ⟨_, _, _, rfl, hl, h2⟩
        · rename_i hne
          rcases q3 with q3 | ⟨r', sd, e1, e2, e3, -⟩
          · obtain ⟨g, fr, s', k1, k2, k3⟩ := grow_some (doc := doc) hE hC hL hr hp hru hlk m next q (max far q.far) s1 (by omega) (by omega) h2 ⟨q1, q2, q3⟩
            exact ⟨g, fr, s', k1, by omega, k3⟩
          · rcases (hC.body _ _ hru).2 with h | h
            · rw [h] at e1; cases e1
            · rw [h] at e1
              simp only [Option.some.injEq] at e1
              have : r' = r := by omega
              subst this
              rw [lookup_push hlk] at e2
              simp only [Option.some.injEq] at e2
              subst e2
              simp only at e3
              omega
theorem called_some {g : Ht} (h : g.forest.length ≤ 300000) (r lev : Int) (p : Nat) : g.called r lev p = some ⟨g.en, g.far, 1, ⟨r, lev, p, g.en, g.roots⟩ :: g.forest⟩ := by
  unfold Ht.called
  rw [if_pos (by unfold lim; omega)]
theorem fresh_some (hE : ES al N C R W f E) (hC : CeOk al R N C) (hW : W.length ≤ 2048) {doc : Bool} {L : Lv} (hL : LG al R C W L) {r : Int} (lev : Int) (hr : 0 ≤ r) {p : Nat} (hp : p ≤ W.length) {ru : Ru} (hru : R[r.toNat]? = some ru) (hlk : L.lookup (r, (p : Int)) = none) {m : Nat} {s : Ss} (hs : s.left ≤ f) (hm : s.left < m) :
    ∃ o s', freshE E doc L r lev p ru.body.toNat m s = some (o, s') ∧ s'.left ≤ s.left ∧ ∀ h, o = .hit h → p ≤ h.en ∧ h.en ≤ W.length ∧ ∃ z : Nat, h.forest.length = z + 1 ∧ Good al (ceAt C ru.body.toNat) ((h.en : Int) - p) z := by
  obtain ⟨o, s1, he, hl, -, hg, -⟩ := hE ru.body.toNat p (L ++ [((r, (p : Int)), none)]) s hs (hC.body _ _ hru).1 hp (hL.push hr (fun sd e => by cases e)) (pre_push hC hr hru hlk _)
  unfold freshE
  rw [he]
  cases o with
  | miss fr => exact ⟨_, _, rfl, hl, fun h e => by cases e⟩
  | hit q =>
    obtain ⟨q1, q2, q3⟩ := hg q rfl
    have q4 : Good al (ceAt C ru.body.toNat) ((q.en : Int) - p) q.forest.length := by
      rcases q3 with q3 | ⟨r', sd, e1, e2, -, -⟩
      · exact q3
      · rcases (hC.body _ _ hru).2 with h | h
        · rw [h] at e1; cases e1
        · rw [h] at e1
          simp only [Option.some.injEq] at e1
          have : r' = r := by omega
          subst this
          rw [lookup_push hlk] at e2
          cases e2
    obtain ⟨g, fr, s', k1, k2, k3, k4, k5⟩ := grow_some (doc := doc) (lev := lev) hE hC hL hr hp hru hlk m q q q.far s1 (by omega) (by omega) ⟨q1, q2, q4⟩ ⟨q1, q2, q4⟩
    simp only
    rw [k1]
    simp only
    have hsm := good_small hC hW k5 (by omega) (by omega)
    rw [called_some (g := g.tried fr) (by simp only [Ht.tried]; omega)]
    refine ⟨_, _, rfl, by omega, fun h e => ?_⟩
    cases e
    exact ⟨k3, k4, g.forest.length, rfl, k5⟩
theorem call_good {c : Ce} {b : Ce} (h1 : leO (addO b.de (some 1)) c.de = true) (h2 : b.be + 1 ≤ c.be) {l s : Int} (h : Good al b l s) : Good al c l (s + 1) := by
  refine ⟨fun hl => ?_, fun hl => by have := h.2 hl; omega⟩
  obtain ⟨d, e, k⟩ := h.1 hl
  rw [e] at h1
  obtain ⟨y, hy, hle⟩ := leO_some (x := d + 1) h1
  exact ⟨y, hy, by omega⟩
theorem call_some (hE : ES al N C R W f E) (hC : CeOk al R N C) (hW : W.length ≤ 2048) {doc : Bool} {L : Lv} (hL : LG al R C W L) {r lev : Int} (hr : 0 ≤ r) {p : Nat} (hp : p ≤ W.length) {ru : Ru} (hru : R[r.toNat]? = some ru) {c : Ce} (h1 : leO (addO (ceAt C ru.body.toNat).de (some 1)) c.de = true) (h2 : (ceAt C ru.body.toNat).be + 1 ≤ c.be) {m : Nat} {s : Ss} (hs : s.left ≤ f) (hm : s.left < m) :
    ∃ o s', callE E doc R L r lev p m s = some (o, s') ∧ s'.left ≤ s.left ∧ HitG al c W p L o ∧ ∀ q, L.lookup (r, (p : Int)) = some q → ∀ h, o = .hit h → ∃ sd, q = some sd ∧ h.en = sd.en ∧ h.forest.length = sd.tree.length + 1 := by
  unfold callE
  cases hlk : L.lookup (r, (p : Int)) with
  | some q =>
    cases q with
    | none => exact ⟨_, _, rfl, Nat.le_refl _, (fun h e => by cases e), fun q _ h e => by cases e⟩
    | some sd =>
      obtain ⟨-, hx⟩ := hL _ (lookup_mem hlk)
      obtain ⟨ru', e1, e2, e3, e4⟩ := hx sd rfl
      simp only at e1 e2 e4
      rw [hru] at e1
      cases e1
      have hsm := good_small hC hW e4 (by omega) (by omega)
      simp only
      split
      · rw [called_some (by simp only; omega)]
        refine ⟨_, _, rfl, Nat.le_refl _, fun h e => ?_, fun q hq h e => ?_⟩
        · cases e
          exact ⟨by simp only; omega, e3, .inl (by have := call_good h1 h2 e4; simpa using this)⟩
        · cases e
          simp only [Option.some.injEq] at hq
          subst hq
          exact ⟨sd, rfl, rfl, by simp⟩
      · exact ⟨_, _, rfl, Nat.le_refl _, (fun h e => by cases e), fun q _ h e => by cases e⟩
  | none =>
    simp only [hru]
    obtain ⟨o, s', k1, k2, k3⟩ := fresh_some (doc := doc) hE hC hW hL lev hr hp hru hlk hs hm
    refine ⟨o, s', k1, k2, fun h e => ?_, fun q hq => by cases hq⟩
    obtain ⟨g1, g2, z, g3, g4⟩ := k3 h e
    exact ⟨g1, g2, .inl (by rw [g3]; have := call_good h1 h2 g4; simpa using this)⟩
theorem one_some (x : Nd) {p : Nat} (hp : p ≤ W.length) {c : Ce} (h : 0 ≤ al + c.be) {L : Lv} : HitG al c W p L (oneAt W x p) := by
  intro g e
  unfold oneAt at e
  split at e
  · cases e
  · rename_i d hd
    have : p < W.length := (List.getElem?_eq_some_iff.1 hd).1
    split at e
    · cases e
    · cases e
      refine ⟨by simp [upTo], by simp only [upTo]; omega, .inl ⟨fun hl => by simp only [upTo] at hl; omega, fun _ => ?_⟩⟩
      simp only [upTo, List.length_nil]
      have : al * (((p + 1 : Nat) : Int) - p) = al := by rw [show ((p + 1 : Nat) : Int) - p = 1 by omega]; simp
      omega
theorem text_some (hal : 0 ≤ al) {c : Ce} (h : 0 ≤ al + c.be) {L : Lv} : ∀ (t : List UInt8) (p q : Nat), q ≤ p → p ≤ W.length → (q < p ∨ t ≠ []) → HitG al c W q L (textAt W t p)
  | [], p, q, hq, hp, hne => by
    intro g e
    simp only [textAt, Fo.hit.injEq] at e
    subst e
    have hlt : q < p := by rcases hne with h | h; exact h; exact absurd rfl h
    refine ⟨hq, hp, .inl ⟨fun hl => by simp only [upTo] at hl; omega, fun _ => ?_⟩⟩
    simp only [upTo, List.length_nil]
    have : al * 1 ≤ al * ((p : Int) - q) := Int.mul_le_mul_of_nonneg_left (by omega) hal
    omega
  | a :: t, p, q, hq, hp, hne => by
    intro g e
    unfold textAt at e
    split at e
    · rename_i hd
      have : p < W.length := (List.getElem?_eq_some_iff.1 hd).1
      exact text_some hal h t (p + 1) q (by omega) (by omega) (.inl (by omega)) g e
    · cases e
theorem node_some (hE : ES al N C R W f E) (hC : CeOk al R N C) (hG : GrV R N) (hW : W.length ≤ 2048) {doc : Bool} {L : Lv} (hL : LG al R C W L) {n p : Nat} (hp : p ≤ W.length) {x : Nd} (hx : N[n]? = some x) (hpre : PreC (ceAt C n) p L) {m : Nat} {s : Ss} (hs : s.left ≤ f) (hm : s.left < m) :
    ∃ r s', nodeE E doc R W x p L m s = some (r, s') ∧ s'.left ≤ s.left ∧ HitG al (ceAt C n) W p L r ∧ SeedC N n p L r := by
  have hxm : x ∈ N := List.mem_of_getElem? hx
  have hc := hC.node n x hx
  have hkr := hG.kids x hxm
  have hsd : ∀ r : Fo, x.kind ≠ 5 → SeedC N n p L r := fun r h5 y hy e5 => by rw [hx] at hy; cases hy; exact absurd e5 h5
  unfold nodeC at hc
  unfold nodeE
  split
  · rename_i hk
    rw [if_pos hk] at hc
    simp only [Bool.and_eq_true] at hc
    refine ⟨_, _, rfl, Nat.le_refl _, fun h e => ?_, hsd _ (by omega)⟩
    cases e
    refine ⟨Nat.le_refl _, hp, .inl ?_⟩
    have := good_empty (al := al) hc.1
    simpa [upTo] using this
  rename_i k1
  rw [if_neg k1] at hc
  split
  · rename_i hk
    rw [if_pos hk] at hc
    simp only [Bool.and_eq_true, decide_eq_true_eq] at hc
    exact ⟨_, _, rfl, Nat.le_refl _, one_some x hp hc.1, hsd _ (by omega)⟩
  rename_i k2
  rw [if_neg k2] at hc
  split
  · rename_i hk
    rw [if_pos hk] at hc
    simp only [Bool.and_eq_true, decide_eq_true_eq] at hc
    refine ⟨_, _, rfl, Nat.le_refl _, text_some hC.alr.1 hc.1.2 _ p p (Nat.le_refl _) hp (.inr (fun e => ?_)), hsd _ (by omega)⟩
    have h1 : x.text.data.toList.length = x.text.size := by simp
    rw [e] at h1
    simp at h1
    omega
  rename_i k4
  rw [if_neg k4] at hc
  split
  · rename_i hk
    rw [if_pos hk] at hc
    simp only [Bool.and_eq_true] at hc
    obtain ⟨hc0, hc⟩ := hc
    obtain ⟨g1, g2, g3, g4⟩ := hG.call x hxm hk
    cases hru : R[x.rule.toNat]? with
    | none => rw [hru] at hc; cases hc
    | some ru =>
      rw [hru] at hc
      simp only [Bool.and_eq_true, decide_eq_true_eq] at hc
      obtain ⟨o, s', e1, e2, e3, e4⟩ := call_some (doc := doc) (lev := x.level) hE hC hW hL g1 hp hru hc.1 hc.2 hs hm
      refine ⟨o, s', e1, e2, e3, fun y hy e5 => ?_⟩
      rw [hx] at hy
      cases hy
      exact e4
  rename_i k5
  rw [if_neg k5] at hc
  split
  · rename_i hk
    rw [if_pos hk] at hc
    simp only [Bool.and_eq_true, List.all_eq_true] at hc
    obtain ⟨hc1, hc⟩ := hc
    have hkk : ∀ k ∈ x.kids, k.toNat < N.length ∧ (ceAt C k.toNat).ow = none := fun k hk' => ⟨(hkr k hk').2, kidC_none (hc1 k hk')⟩
    have hup : p ≤ (upTo p).en ∧ (upTo p).en ≤ W.length := ⟨Nat.le_refl _, hp⟩
    cases how : (ceAt C n).ow with
    | none =>
      rw [how] at hc
      simp only at hc
      cases hq : seqC C x.kids (some 0) none with
      | none => rw [hq] at hc; cases hc
      | some en =>
        obtain ⟨e, n2⟩ := en
        rw [hq] at hc
        simp only [Bool.and_eq_true] at hc
        obtain ⟨r, s', e1, e2, e3⟩ := seq_some hE hC hW hL (p := p) x.kids (upTo p) s (some 0) none e n2 hs hkk hup.1 hup.2 (by have := acc_zero al; simpa [upTo] using this) rfl rfl hq
        refine ⟨r, s', e1, e2, fun h eh => ?_, hsd _ (by omega)⟩
        obtain ⟨a1, a2, a3⟩ := e3 h eh
        exact ⟨a1, a2, .inl (acc_good a3 hc.1 hc.2)⟩
    | some r0 =>
      rw [how] at hc
      simp only at hc
      split at hc
      · rename_i a b hab
        split at hc
        · rename_i y ru hy hru
          simp only [Bool.and_eq_true, decide_eq_true_eq] at hc
          obtain ⟨⟨⟨⟨c1, c2⟩, c3⟩, c4⟩, c5⟩ := hc
          rw [hab] at hkk hkr ⊢
          obtain ⟨a1, a2⟩ := hkk a (by simp)
          obtain ⟨b1, b2⟩ := hkk b (by simp)
          obtain ⟨o1, s1, he1, hl1, -, hg1, -⟩ := hE a.toNat p L s hs a1 hp hL (pre_none a2)
          unfold seqE
          rw [show (upTo p).en = p from rfl, he1]
          cases o1 with
          | miss far => exact ⟨_, _, rfl, hl1, (fun h e => by cases e), hsd _ (by omega)⟩
          | hit q1 =>
            obtain ⟨u1, u2, u3⟩ := hg1 q1 rfl
            have u4 := goodR_none u3 a2
            have us := good_small hC hW u4 (by omega) (by omega)
            obtain ⟨o2, s2, he2, hl2, -, hg2, hsd2⟩ := hE b.toNat q1.en L s1 (by omega) b1 u2 hL (pre_none b2)
            simp only
            rw [then_some (by simp only [upTo, List.length_nil]; unfold lim; omega)]
            simp only
            unfold seqE
            simp only
            rw [he2]
            cases o2 with
            | miss far => exact ⟨_, _, rfl, by omega, (fun h e => by cases e), hsd _ (by omega)⟩
            | hit q2 =>
              obtain ⟨v1, v2, v3⟩ := hg2 q2 rfl
              have v4 := goodR_none v3 b2
              have vs := good_small hC hW v4 (by omega) (by omega)
              simp only
              rw [then_some (by simp only [upTo, List.nil_append]; unfold lim; omega)]
              simp only [seqE, upTo, List.nil_append]
              refine ⟨_, _, rfl, by omega, fun h e => ?_, hsd _ (by omega)⟩
              cases e
              refine ⟨by simp only; omega, v2, ?_⟩
              by_cases hz : q1.en = p
              · right
                obtain ⟨o, ho⟩ := hpre r0 how
                obtain ⟨sd, z1, z2, z3⟩ := hsd2 y hy c1 o (by rw [c2, hz]; exact ho) q2 rfl
                refine ⟨r0, sd, how, by rw [ho, z1], z2, ?_⟩
                obtain ⟨d, ed, kd⟩ := u4.1 (by omega)
                rw [ed] at c5
                have kd2 : d ≤ 10 := of_decide_eq_true c5
                simp only [List.length_append]
                omega
              · left
                have w1 := u4.2 (by omega)
                have hz2 : (q2.en : Int) - q1.en ≠ 0 := fun e0 => by
                  obtain ⟨d, ed, -⟩ := v4.1 e0
                  rw [c3] at ed
                  cases ed
                have w2 := v4.2 (by omega)
                have hmul : al * ((q2.en : Int) - p) = al * ((q1.en : Int) - p) + al * ((q2.en : Int) - q1.en) := by rw [← Int.mul_add]; congr 1; omega
                refine ⟨fun h0 => absurd h0 (by simp only; omega), fun _ => ?_⟩
                simp only [List.length_append]
                omega
        · cases hc
      · cases hc
  rename_i k6
  rw [if_neg k6] at hc
  split
  · rename_i hk
    rw [if_pos hk] at hc
    obtain ⟨r, s', e1, e2, e3⟩ := alt_some hE hL hp hpre x.kids (-1) s hs (fun k hk' => by
      have := List.all_eq_true.1 hc k hk'
      simp only [Bool.and_eq_true, Bool.or_eq_true, decide_eq_true_eq] at this
      exact ⟨(hkr k hk').2, this.1.1, this.1.2, this.2⟩)
    exact ⟨r, s', e1, e2, e3, hsd _ (by omega)⟩
  rename_i k7
  rw [if_neg k7] at hc
  simp only [Bool.and_eq_true] at hc
  obtain ⟨hc0, hc⟩ := hc
  have hon : (ceAt C n).ow = none := by simpa using hc0
  cases hks : x.kids with
  | nil => rw [hks] at hc; cases hc
  | cons k ks =>
    rw [hks] at hc hkr
    simp only [Bool.and_eq_true] at hc
    obtain ⟨hko, hc⟩ := hc
    have hkn := (hkr k (by simp)).2
    have hko2 := kidC_none hko
    simp only
    split
    · rename_i hk
      rw [if_pos hk] at hc
      simp only [Bool.and_eq_true, decide_eq_true_eq] at hc
      obtain ⟨r, s', e1, e2, e3⟩ := more_some hE hC hW hL hkn hko2 hc.1.1 (e := some 0) rfl m (upTo p) s hs hm (p := p) (Nat.le_refl _) hp ⟨fun _ => ⟨0, rfl, by simp [upTo]⟩, fun h => by simp [upTo] at h⟩
      refine ⟨r, s', e1, e2, fun h e => ?_, hsd _ (by omega)⟩
      obtain ⟨a1, a2, a3⟩ := e3 h e
      exact ⟨a1, a2, .inl (acc_good a3 hc.2 (by simp only [addO, maxO, leO, decide_eq_true_eq]; have := hc.1.2; omega))⟩
    rename_i k8
    rw [if_neg k8] at hc
    split
    · rename_i hk
      rw [if_pos hk] at hc
      simp only [Bool.and_eq_true, decide_eq_true_eq] at hc
      obtain ⟨⟨⟨⟨c1, c2⟩, c3⟩, c4⟩, c5⟩ := hc
      obtain ⟨o1, s1, he1, hl1, hlt1, hg1, -⟩ := hE k.toNat p L s hs hkn hp hL (pre_none hko2)
      rw [he1]
      cases o1 with
      | miss far => exact ⟨_, _, rfl, hl1, (fun h e => by cases e), hsd _ (by omega)⟩
      | hit q1 =>
        obtain ⟨u1, u2, u3⟩ := hg1 q1 rfl
        have u4 := goodR_none u3 hko2
        simp only
        obtain ⟨r, s', e1, e2, e3⟩ := more_some hE hC hW hL hkn hko2 c1 (e := (ceAt C k.toNat).de) c5 m q1 s1 (by omega) (by omega) (p := p) u1 u2 ⟨u4.1, fun h0 => by
          obtain ⟨y, hy, hle⟩ := maxO_left (a := some (ceAt C k.toNat).be) (b := addO (ceAt C k.toNat).de (some (ceAt C k.toNat).be)) rfl
          have := u4.2 h0
          exact ⟨y, hy, by omega⟩⟩
        refine ⟨r, s', e1, by omega, fun h e => ?_, hsd _ (by omega)⟩
        obtain ⟨a1, a2, a3⟩ := e3 h e
        refine ⟨a1, a2, .inl (acc_good a3 c3 ?_)⟩
        cases hd : (ceAt C k.toNat).de with
        | none => simpa [addO, maxO, leO] using c2
        | some d =>
          rw [hd] at c4
          simp only [addO, leO, decide_eq_true_eq] at c4
          simp only [addO, maxO, leO, decide_eq_true_eq]
          omega
    rename_i k9
    rw [if_neg k9] at hc
    split
    · rename_i hk
      rw [if_pos hk] at hc
      simp only [Bool.and_eq_true, decide_eq_true_eq] at hc
      obtain ⟨o1, s1, he1, hl1, hlt1, hg1, -⟩ := hE k.toNat p L s hs hkn hp hL (pre_none hko2)
      rw [he1]
      refine ⟨_, _, rfl, ?_, fun h e => ?_, hsd _ (by omega)⟩
      · cases o1 <;> exact hl1
      · cases o1 with
        | miss far =>
          cases e
          refine ⟨Nat.le_refl _, hp, .inl ?_⟩
          have := good_empty (al := al) hc.2
          simpa [upTo, Ht.tried] using this
        | hit q1 =>
          obtain ⟨u1, u2, u3⟩ := hg1 q1 rfl
          have u4 := goodR_none u3 hko2
          cases e
          exact ⟨u1, u2, .inl (good_le u4 hc.1.2 hc.1.1)⟩
    · rename_i hk
      rw [if_neg hk] at hc
      obtain ⟨o1, s1, he1, hl1, hlt1, hg1, -⟩ := hE k.toNat p L s hs hkn hp hL (pre_none hko2)
      rw [he1]
      have hge : ∀ fr, GoodR al (ceAt C n) p L ((upTo p).tried fr) := fun fr => .inl (by have := good_empty (al := al) hc; simpa [upTo, Ht.tried] using this)
      refine ⟨_, _, rfl, ?_, fun h e => ?_, hsd _ (by have := (hG.kind x hxm).1; omega)⟩
      · cases o1 <;> exact hl1
      · cases o1 with
        | miss far =>
          simp only [lookE] at e
          split at e
          · cases e
          · cases e
            exact ⟨Nat.le_refl _, hp, hge _⟩
        | hit q1 =>
          simp only [lookE] at e
          split at e
          · cases e
            exact ⟨Nat.le_refl _, hp, hge _⟩
          · cases e
end
theorem ev_some {al : Int} {R : List Ru} {N : List Nd} {C : List Ce} {W : List UInt8} (hC : CeOk al R N C) (hG : GrV R N) (hW : W.length ≤ 2048) {doc : Bool} : ∀ f, ES al N C R W f (ev doc R N W f)
  | 0 => fun n p L s hs hn hp hL hpre => ⟨_, _, rfl, Nat.le_refl _, (fun h e => by cases e), (fun h e => by cases e), fun x _ _ o _ h e => by cases e⟩
  | f + 1 => fun n p L s hs hn hp hL hpre => by
    unfold ev
    split
    · exact ⟨_, _, rfl, Nat.le_refl _, (fun h e => by cases e), (fun h e => by cases e), fun x _ _ o _ h e => by cases e⟩
    · rename_i ho
      obtain ⟨x, hx⟩ : ∃ x, N[n]? = some x := ⟨_, List.getElem?_eq_getElem hn⟩
      rw [hx]
      simp only
      obtain ⟨r, s', e1, e2, e3, e4⟩ := node_some (ev_some hC hG hW (doc := doc) f) hC hG hW (doc := doc) hL hp hx hpre (m := f + 1) (s := ⟨s.left - 1, false⟩) (by simp only; omega) (by simp only; omega)
      have hne : s.left ≠ 0 := fun h => ho (.inr h)
      simp only at e2
      exact ⟨r, s', e1, by omega, fun h e => by omega, e3, e4⟩
theorem LG.nil (al : Int) (R : List Ru) (C : List Ce) (W : List UInt8) : LG al R C W [] := fun x hx => by simp at hx
/-- a call of a rule is never too long. -/
theorem top_some {al : Int} {R : List Ru} {N : List Nd} {C : List Ce} {W : List UInt8} (hC : CeOk al R N C) (hG : GrV R N) (hW : W.length ≤ 2048) (doc : Bool) {r : Int} (lev : Int) (hr : 0 ≤ r) {p : Nat} (hp : p ≤ W.length) {ru : Ru} (hru : R[r.toNat]? = some ru) (T : Nat) :
    ∃ o s', freshE (ev doc R N W T) doc [] r lev p ru.body.toNat (T + 1) ⟨T, false⟩ = some (o, s') ∧ ∀ h, o = .hit h → p ≤ h.en ∧ h.en ≤ W.length ∧ h.forest.length ≤ 300000 := by
  obtain ⟨o, s', e1, -, e3⟩ := fresh_some (doc := doc) (m := T + 1) (s := ⟨T, false⟩) (ev_some hC hG hW T) hC hW (LG.nil al R C W) lev hr hp hru rfl (Nat.le_refl _) (Nat.lt_succ_self _)
  refine ⟨o, s', e1, fun h e => ?_⟩
  obtain ⟨g1, g2, z, g3, g4⟩ := e3 h e
  have := good_small hC hW g4 (by omega) (by omega)
  exact ⟨g1, g2, by omega⟩
end Go.Proofs.YtkimkghldilliaaGreat
namespace Go.Proofs.YtkimkghldilliaaGreat
open Go.RowKit Go.Lib

/-- a match pays. -/
def EH (E : Nat → Nat → Lv → Ss → Rs) : Prop := ∀ n p L s h s', E n p L s = some (.hit h, s') → s'.left < s.left
theorem ev_hit {doc : Bool} {R : List Ru} {N : List Nd} {W : List UInt8} : ∀ f, EH (ev doc R N W f)
  | 0 => fun n p L s h s' e => by simp [ev] at e
  | f + 1 => fun n p L s h s' e => by
    unfold ev at e
    split at e
    · simp at e
    · rename_i ho
      split at e
      · cases e
      · have h1 := (node_left (ev_left f) e).1
        have hne : s.left ≠ 0 := fun h => ho (.inr h)
        simp only at h1
        omega
/-- the same, with other steps, where they are enough. -/
def FR (f' : Nat) (E E' : Nat → Nat → Lv → Ss → Rs) : Prop := ∀ n p L l r l', E n p L ⟨l, false⟩ = some (r, ⟨l', false⟩) → ∀ l2 l2', l2 + l' = l + l2' → l2 ≤ f' → E' n p L ⟨l2, false⟩ = some (r, ⟨l2', false⟩)
theorem not_over {s : Ss} {l' : Nat} (h : SLe s ⟨l', false⟩) : s = ⟨s.left, false⟩ := by
  cases s with
  | mk l o =>
    cases o with
    | false => rfl
    | true => have := h.2 rfl; cases this
section
variable {E E' : Nat → Nat → Lv → Ss → Rs} {f' : Nat}
theorem seq_fr (hF : FR f' E E') (hE : EL E) {L : Lv} : ∀ (ks : List Int) (g : Ht) (l : Nat) (r : Fo) (l' : Nat), seqE E L ks g ⟨l, false⟩ = some (r, ⟨l', false⟩) → ∀ l2 l2', l2 + l' = l + l2' → l2 ≤ f' → seqE E' L ks g ⟨l2, false⟩ = some (r, ⟨l2', false⟩)
  | [], g, l, r, l', h, l2, l2', he, hl => by
    simp only [seqE, Option.some.injEq, Prod.mk.injEq, Ss.mk.injEq, and_true] at h ⊢
    obtain ⟨h1, h2⟩ := h
    exact ⟨h1, by omega⟩
  | k :: ks, g, l, r, l', h, l2, l2', he, hl => by
    unfold seqE at h ⊢
    cases h1 : E k.toNat g.en L ⟨l, false⟩ with
    | none => rw [h1] at h; cases h
    | some q =>
      obtain ⟨o, s1⟩ := q
      rw [h1] at h
      cases o with
      | miss far =>
        simp only [Option.some.injEq, Prod.mk.injEq] at h
        obtain ⟨h2, rfl⟩ := h
        rw [hF _ _ _ _ _ _ h1 l2 l2' he hl]
        simp only [Option.some.injEq, Prod.mk.injEq, and_true]
        exact h2
      | hit q =>
        simp only at h
        cases h2 : g.then q with
        | none => rw [h2] at h; cases h
        | some g' =>
          rw [h2] at h
          have hle := seq_left hE ks g' s1 r _ h
          rw [not_over hle] at h h1
          have hl1 := (hE _ _ _ _ _ _ h1).1
          have hl2 := hle.1
          simp only at hl1 hl2
          rw [hF _ _ _ _ _ _ h1 l2 (l2 + s1.left - l) (by omega) hl]
          simp only
          rw [h2]
          exact seq_fr hF hE ks g' s1.left r l' h _ _ (by omega) (by omega)
theorem alt_fr (hF : FR f' E E') (hE : EL E) {L : Lv} {p : Nat} : ∀ (ks : List Int) (far : Int) (l : Nat) (r : Fo) (l' : Nat), altE E L p ks far ⟨l, false⟩ = some (r, ⟨l', false⟩) → ∀ l2 l2', l2 + l' = l + l2' → l2 ≤ f' → altE E' L p ks far ⟨l2, false⟩ = some (r, ⟨l2', false⟩)
  | [], far, l, r, l', h, l2, l2', he, hl => by
    simp only [altE, Option.some.injEq, Prod.mk.injEq, Ss.mk.injEq, and_true] at h ⊢
    obtain ⟨h1, h2⟩ := h
    exact ⟨h1, by omega⟩
  | k :: ks, far, l, r, l', h, l2, l2', he, hl => by
    unfold altE at h ⊢
    cases h1 : E k.toNat p L ⟨l, false⟩ with
    | none => rw [h1] at h; cases h
    | some q =>
      obtain ⟨o, s1⟩ := q
      rw [h1] at h
      cases o with
      | miss fr =>
        simp only at h
        have hle := alt_left hE ks _ s1 r _ h
        rw [not_over hle] at h h1
        have hl1 := (hE _ _ _ _ _ _ h1).1
        have hl2 := hle.1
        simp only at hl1 hl2
        rw [hF _ _ _ _ _ _ h1 l2 (l2 + s1.left - l) (by omega) hl]
        exact alt_fr hF hE ks _ s1.left r l' h _ _ (by omega) (by omega)
      | hit q =>
        simp only [Option.some.injEq, Prod.mk.injEq] at h
        obtain ⟨h2, rfl⟩ := h
        rw [hF _ _ _ _ _ _ h1 l2 l2' he hl]
        simp only [Option.some.injEq, Prod.mk.injEq, and_true]
        exact h2
theorem more_fr (hF : FR f' E E') (hE : EL E) (hH : EH E) {L : Lv} {k : Nat} : ∀ (m m' : Nat) (g : Ht) (l : Nat) (r : Fo) (l' : Nat), moreE E L k m g ⟨l, false⟩ = some (r, ⟨l', false⟩) → ∀ l2 l2', l2 + l' = l + l2' → l2 ≤ f' → l2 < m' → moreE E' L k m' g ⟨l2, false⟩ = some (r, ⟨l2', false⟩)
  | 0, m', g, l, r, l', h, l2, l2', he, hl, hm => by cases h
  | m + 1, 0, g, l, r, l', h, l2, l2', he, hl, hm => absurd hm (by omega)
  | m + 1, m' + 1, g, l, r, l', h, l2, l2', he, hl, hm => by
    unfold moreE at h ⊢
    cases h1 : E k g.en L ⟨l, false⟩ with
    | none => rw [h1] at h; cases h
    | some q =>
      obtain ⟨o, s1⟩ := q
      rw [h1] at h
      cases o with
      | miss far =>
        simp only [Option.some.injEq, Prod.mk.injEq] at h
        obtain ⟨h2, rfl⟩ := h
        rw [hF _ _ _ _ _ _ h1 l2 l2' he hl]
        simp only [Option.some.injEq, Prod.mk.injEq, and_true]
        exact h2
      | hit q =>
        simp only at h
        split at h
        · rename_i hz
          simp only [Option.some.injEq, Prod.mk.injEq] at h
          obtain ⟨h2, rfl⟩ := h
          rw [hF _ _ _ _ _ _ h1 l2 l2' he hl]
          simp only [if_pos hz, Option.some.injEq, Prod.mk.injEq, and_true]
          exact h2
        · rename_i hz
          cases h2 : g.then q with
          | none => rw [h2] at h; cases h
          | some g' =>
            rw [h2] at h
            have hle := more_left hE m g' s1 r _ h
            rw [not_over hle] at h h1
            have hl1 := hH _ _ _ _ _ _ h1
            have hl2 := hle.1
            simp only at hl1 hl2
            rw [hF _ _ _ _ _ _ h1 l2 (l2 + s1.left - l) (by omega) hl]
            simp only
            rw [if_neg hz, h2]
            exact more_fr hF hE hH m m' g' s1.left r l' h _ _ (by omega) (by omega) (by omega)
theorem grow_fr (hF : FR f' E E') (hE : EL E) (hH : EH E) {doc doc' : Bool} {L : Lv} {r lev : Int} {p body : Nat} : ∀ (m m' : Nat) (last next : Ht) (far : Int) (l : Nat) (g : Ht) (fr : Int) (l' : Nat), growE E doc L r lev p body m last next far ⟨l, false⟩ = some (g, fr, ⟨l', false⟩) → ∀ l2 l2', l2 + l' = l + l2' → l2 ≤ f' → l2 < m' → growE E' doc' L r lev p body m' last next far ⟨l2, false⟩ = some (g, fr, ⟨l2', false⟩)
  | 0, m', last, next, far, l, g, fr, l', h, l2, l2', he, hl, hm => by cases h
  | m + 1, 0, last, next, far, l, g, fr, l', h, l2, l2', he, hl, hm => absurd hm (by omega)
  | m + 1, m' + 1, last, next, far, l, g, fr, l', h, l2, l2', he, hl, hm => by
    unfold growE at h ⊢
    rw [if_neg (by simp)] at h ⊢
    cases h1 : E body p (L ++ [((r, (p : Int)), some ⟨next.en, lev, next.forest⟩)]) ⟨l, false⟩ with
    | none => rw [h1] at h; cases h
    | some q =>
      obtain ⟨o, s1⟩ := q
      rw [h1] at h
      cases o with
      | miss far2 =>
        simp only [Option.some.injEq, Prod.mk.injEq] at h
        obtain ⟨h2, h3, rfl⟩ := h
        rw [hF _ _ _ _ _ _ h1 l2 l2' he hl]
        simp only [Option.some.injEq, Prod.mk.injEq, and_true]
        exact ⟨h2, h3⟩
      | hit x =>
        simp only at h
        split at h
        · rename_i hz
          simp only [Option.some.injEq, Prod.mk.injEq] at h
          obtain ⟨h2, h3, rfl⟩ := h
          rw [hF _ _ _ _ _ _ h1 l2 l2' he hl]
          simp only [if_pos hz, Option.some.injEq, Prod.mk.injEq, and_true]
          exact ⟨h2, h3⟩
        · rename_i hz
          have hle := grow_left hE m next x _ s1 g fr _ h
          rw [not_over hle] at h h1
          have hl1 := hH _ _ _ _ _ _ h1
          have hl2 := hle.1
          simp only at hl1 hl2
          rw [hF _ _ _ _ _ _ h1 l2 (l2 + s1.left - l) (by omega) hl]
          simp only
          rw [if_neg hz]
          exact grow_fr hF hE hH m m' next x _ s1.left g fr l' h _ _ (by omega) (by omega) (by omega)
theorem fresh_fr (hF : FR f' E E') (hE : EL E) (hH : EH E) {doc doc' : Bool} {L : Lv} {r lev : Int} {p body m m' : Nat} {l : Nat} {o : Fo} {l' : Nat} (h : freshE E doc L r lev p body m ⟨l, false⟩ = some (o, ⟨l', false⟩)) {l2 l2' : Nat} (he : l2 + l' = l + l2') (hl : l2 ≤ f') (hm : l2 < m') : freshE E' doc' L r lev p body m' ⟨l2, false⟩ = some (o, ⟨l2', false⟩) := by
  unfold freshE at h ⊢
  cases h5 : E body p (L ++ [((r, (p : Int)), none)]) ⟨l, false⟩ with
  | none => rw [h5] at h; cases h
  | some q =>
    obtain ⟨q, s1⟩ := q
    rw [h5] at h
    cases q with
    | miss far =>
      simp only [Option.some.injEq, Prod.mk.injEq] at h
      obtain ⟨h2, rfl⟩ := h
      rw [hF _ _ _ _ _ _ h5 l2 l2' he hl]
      simp only [Option.some.injEq, Prod.mk.injEq, and_true]
      exact h2
    | hit x =>
      simp only at h
      cases h6 : growE E doc L r lev p body m x x x.far s1 with
      | none => rw [h6] at h; cases h
      | some g =>
        obtain ⟨g, far, s2⟩ := g
        rw [h6] at h
        simp only at h
        cases h7 : (g.tried far).called r lev p with
        | none => rw [h7] at h; cases h
        | some g' =>
          rw [h7] at h
          simp only [Option.some.injEq, Prod.mk.injEq] at h
          obtain ⟨h2, rfl⟩ := h
          have hle := grow_left hE _ _ _ _ _ _ _ _ h6
          rw [not_over hle] at h6 h5
          have hl1 := hH _ _ _ _ _ _ h5
          have hl2 := hle.1
          simp only at hl1 hl2
          rw [hF _ _ _ _ _ _ h5 l2 (l2 + s1.left - l) (by omega) hl]
          simp only
          rw [grow_fr hF hE hH m m' x x _ s1.left g far l' h6 _ l2' (by omega) (by omega) (by omega)]
          simp only
          rw [h7]
          simp only [Option.some.injEq, Prod.mk.injEq, and_true]
          exact h2
theorem call_fr (hF : FR f' E E') (hE : EL E) (hH : EH E) {doc doc' : Bool} {R : List Ru} {L : Lv} {r lev : Int} {p m m' : Nat} {l : Nat} {o : Fo} {l' : Nat} (h : callE E doc R L r lev p m ⟨l, false⟩ = some (o, ⟨l', false⟩)) {l2 l2' : Nat} (he : l2 + l' = l + l2') (hl : l2 ≤ f') (hm : l2 < m') : callE E' doc' R L r lev p m' ⟨l2, false⟩ = some (o, ⟨l2', false⟩) := by
  unfold callE at h ⊢
  cases hk : L.lookup (r, (p : Int)) with
  | some q =>
    rw [hk] at h
    cases q with
    | none =>
      simp only [Option.some.injEq, Prod.mk.injEq, Ss.mk.injEq, and_true] at h ⊢
      exact ⟨h.1, by omega⟩
    | some sd =>
      simp only at h ⊢
      split at h
      · rename_i hz
        rw [if_pos hz]
        split at h
        · cases h
        · simp only [Option.some.injEq, Prod.mk.injEq, Ss.mk.injEq, and_true] at h ⊢
          exact ⟨h.1, by omega⟩
      · rename_i hz
        rw [if_neg hz]
        simp only [Option.some.injEq, Prod.mk.injEq, Ss.mk.injEq, and_true] at h ⊢
        exact ⟨h.1, by omega⟩
  | none =>
    rw [hk] at h
    simp only at h ⊢
    cases hr : R[r.toNat]? with
    | none => rw [hr] at h; cases h
    | some ru =>
      rw [hr] at h
      simp only at h ⊢
      exact fresh_fr hF hE hH h he hl hm
theorem node_fr (hF : FR f' E E') (hE : EL E) (hH : EH E) {doc doc' : Bool} {R : List Ru} {W : List UInt8} {x : Nd} {p : Nat} {L : Lv} {m m' : Nat} {l : Nat} {o : Fo} {l' : Nat} (h : nodeE E doc R W x p L m ⟨l, false⟩ = some (o, ⟨l', false⟩)) {l2 l2' : Nat} (he : l2 + l' = l + l2') (hl : l2 ≤ f') (hm : l2 < m') : nodeE E' doc' R W x p L m' ⟨l2, false⟩ = some (o, ⟨l2', false⟩) := by
  have hdone : ∀ q : Fo, some (q, (⟨l, false⟩ : Ss)) = some (o, ⟨l', false⟩) → some (q, (⟨l2, false⟩ : Ss)) = some (o, ⟨l2', false⟩) := fun q h => by
    simp only [Option.some.injEq, Prod.mk.injEq, Ss.mk.injEq, and_true] at h ⊢
    exact ⟨h.1, by omega⟩
  unfold nodeE at h ⊢
  split at h
  · rename_i hk; rw [if_pos hk]; exact hdone _ h
  rename_i k1; rw [if_neg k1]
  split at h
  · rename_i hk; rw [if_pos hk]; exact hdone _ h
  rename_i k2; rw [if_neg k2]
  split at h
  · rename_i hk; rw [if_pos hk]; exact hdone _ h
  rename_i k4; rw [if_neg k4]
  split at h
  · rename_i hk; rw [if_pos hk]; exact call_fr hF hE hH h he hl hm
  rename_i k5; rw [if_neg k5]
  split at h
  · rename_i hk; rw [if_pos hk]; exact seq_fr hF hE _ _ _ _ _ h _ _ he hl
  rename_i k6; rw [if_neg k6]
  split at h
  · rename_i hk; rw [if_pos hk]; exact alt_fr hF hE _ _ _ _ _ h _ _ he hl
  rename_i k7; rw [if_neg k7]
  cases hks : x.kids with
  | nil => rw [hks] at h; cases h
  | cons k ks =>
    rw [hks] at h
    simp only at h ⊢
    split at h
    · rename_i hk; rw [if_pos hk]; exact more_fr hF hE hH _ _ _ _ _ _ h _ _ he hl hm
    rename_i k8; rw [if_neg k8]
    split at h
    · rename_i hk; rw [if_pos hk]
      cases h1 : E k.toNat p L ⟨l, false⟩ with
      | none => rw [h1] at h; cases h
      | some q =>
        obtain ⟨q, s1⟩ := q
        rw [h1] at h
        cases q with
        | miss far =>
          simp only [Option.some.injEq, Prod.mk.injEq] at h
          obtain ⟨h2, rfl⟩ := h
          rw [hF _ _ _ _ _ _ h1 l2 l2' he hl]
          simp only [Option.some.injEq, Prod.mk.injEq, and_true]
          exact h2
        | hit g =>
          simp only at h
          have hle := more_left hE _ _ _ _ _ h
          rw [not_over hle] at h h1
          have hl1 := hH _ _ _ _ _ _ h1
          have hl2 := hle.1
          simp only at hl1 hl2
          rw [hF _ _ _ _ _ _ h1 l2 (l2 + s1.left - l) (by omega) hl]
          exact more_fr hF hE hH _ _ _ _ _ _ h _ _ (by omega) (by omega) (by omega)
    rename_i k9; rw [if_neg k9]
    split at h
    all_goals
      rename_i hk
      first | rw [if_pos hk] | rw [if_neg hk]
      cases h1 : E k.toNat p L ⟨l, false⟩ with
      | none => rw [h1] at h; cases h
      | some q =>
        obtain ⟨q, s1⟩ := q
        rw [h1] at h
        simp only [Option.map_some, Option.some.injEq] at h
        have hs1 : s1 = ⟨l', false⟩ := by
          cases q <;> first | (simp only [optE, Prod.mk.injEq] at h; exact h.2) | (simp only [lookE, Prod.mk.injEq] at h; exact h.2)
        subst hs1
        rw [hF _ _ _ _ _ _ h1 l2 l2' he hl]
        simp only [Option.map_some, Option.some.injEq]
        cases q <;> first | (simp only [optE, Prod.mk.injEq, and_true] at h ⊢; exact h) | (simp only [lookE, Prod.mk.injEq, and_true] at h ⊢; exact h)
end
theorem ev_fr {doc doc' : Bool} {R : List Ru} {N : List Nd} {W : List UInt8} : ∀ f f', FR f' (ev doc R N W f) (ev doc' R N W f')
  | 0, f' => fun n p L l r l' h => by simp [ev] at h
  | f + 1, 0 => fun n p L l r l' h l2 l2' he hl => by
    have h1 : l' < l := by
      unfold ev at h
      split at h
      · simp at h
      · rename_i ho
        split at h
        · cases h
        · have h1 := (node_left (ev_left f) h).1
          have hne : l ≠ 0 := fun h => ho (.inr h)
          simp only at h1
          omega
    omega
  | f + 1, f' + 1 => fun n p L l r l' h l2 l2' he hl => by
    unfold ev at h ⊢
    split at h
    · simp at h
    · rename_i ho
      have hne : l ≠ 0 := fun h => ho (.inr h)
      cases hx : N[n]? with
      | none => rw [hx] at h; cases h
      | some x =>
        rw [hx] at h
        simp only at h ⊢
        have h1 := (node_left (ev_left f) h).1
        simp only at h1
        rw [if_neg (by simp; omega)]
        exact node_fr (ev_fr f f') (ev_left f) (ev_hit f) h (by omega) (by omega) (by omega)
/-- a call of a rule, with other steps. -/
theorem top_fr {doc doc' : Bool} {R : List Ru} {N : List Nd} {W : List UInt8} {r lev : Int} {p body T T2 : Nat} {o : Fo} {l' l2' : Nat} (h : freshE (ev doc R N W T) doc [] r lev p body (T + 1) ⟨T, false⟩ = some (o, ⟨l', false⟩)) (he : T2 + l' = T + l2') : freshE (ev doc' R N W T2) doc' [] r lev p body (T2 + 1) ⟨T2, false⟩ = some (o, ⟨l2', false⟩) :=
  fresh_fr (ev_fr T T2) (ev_left T) (ev_hit T) h he (Nat.le_refl _) (Nat.lt_succ_self _)
/-- fewer steps than are needed are over. -/
theorem top_over {doc doc' : Bool} {R : List Ru} {N : List Nd} {W : List UInt8} {r lev : Int} {p body T T2 : Nat} {o o2 : Fo} {l' : Nat} {s2 : Ss} (h : freshE (ev doc R N W T) doc [] r lev p body (T + 1) ⟨T, false⟩ = some (o, ⟨l', false⟩)) (h2 : freshE (ev doc' R N W T2) doc' [] r lev p body (T2 + 1) ⟨T2, false⟩ = some (o2, s2)) (he : T2 + l' < T) : s2.over = true := by
  cases s2 with
  | mk l2 ov =>
    cases ov with
    | true => rfl
    | false =>
      have hl := (fresh_left (ev_left T2) h2).1
      simp only at hl
      have := top_fr (doc' := doc) (T2 := T) (l2' := l2 + (T - T2)) h2 (by omega)
      rw [h] at this
      simp only [Option.some.injEq, Prod.mk.injEq, Ss.mk.injEq, and_true] at this
      omega
/-- both meanings are the same. -/
theorem doc_same {doc doc' : Bool} {R : List Ru} {N : List Nd} {W : List UInt8} {r lev : Int} {p body T : Nat} {o o2 : Fo} {s s2 : Ss} (h : freshE (ev doc R N W T) doc [] r lev p body (T + 1) ⟨T, false⟩ = some (o, s)) (h2 : freshE (ev doc' R N W T) doc' [] r lev p body (T + 1) ⟨T, false⟩ = some (o2, s2)) : s.over = s2.over ∧ (s.over = false → o = o2 ∧ s = s2) := by
  cases s with
  | mk l ov =>
    cases s2 with
    | mk l2 ov2 =>
      cases ov with
      | false =>
        have := top_fr (doc' := doc') (T2 := T) (l2' := l) h (by omega)
        rw [h2] at this
        simp only [Option.some.injEq, Prod.mk.injEq, Ss.mk.injEq] at this
        obtain ⟨e1, e2, e3⟩ := this
        exact ⟨e3.symm, fun _ => ⟨e1.symm, by rw [e2, e3]⟩⟩
      | true =>
        cases ov2 with
        | true => exact ⟨rfl, fun h => by cases h⟩
        | false =>
          have := top_fr (doc' := doc) (T2 := T) (l2' := l2) h2 (by omega)
          rw [h] at this
          simp at this
/-- a call pays. -/
theorem top_pays {doc : Bool} {R : List Ru} {N : List Nd} {W : List UInt8} {r lev : Int} {p body T : Nat} {o : Fo} {l' : Nat} (h : freshE (ev doc R N W T) doc [] r lev p body (T + 1) ⟨T, false⟩ = some (o, ⟨l', false⟩)) : l' < T := by
  cases T with
  | zero =>
    unfold freshE at h
    simp [ev] at h
  | succ T =>
    have hl := (fresh_left (ev_left (T + 1)) h).1
    simp only at hl
    by_cases hz : l' < T + 1
    · exact hz
    · exfalso
      have he : l' = T + 1 := by omega
      have := top_fr (doc' := doc) (T2 := 0) (l2' := 0) h (by omega)
      unfold freshE at this
      simp [ev] at this
end Go.Proofs.YtkimkghldilliaaGreat
namespace Go.Proofs.YtkimkghldilliaaGreat
open Go.RowKit Go.Lib

/-- a certificate, by reckoning. -/
def certB (al : Int) (R : List Ru) (N : List Nd) (C : List Ce) : Bool :=
  decide (0 ≤ al ∧ al ≤ 100) && (List.range N.length).all (fun n => match N[n]? with
    | some x => nodeC al R N C (ceAt C n) x
    | none => true) && C.all (fun c => decide (c.be ≤ 100) && leO c.de (some 100)) && (List.range R.length).all (fun r => match R[r]? with
    | some ru => decide (ru.body.toNat < N.length) && (decide ((ceAt C ru.body.toNat).ow = none) || decide ((ceAt C ru.body.toNat).ow = some (r : Int)))
    | none => true)
theorem cert_ok {al : Int} {R : List Ru} {N : List Nd} {C : List Ce} (h : certB al R N C = true) : CeOk al R N C := by
  unfold certB at h
  simp only [Bool.and_eq_true, decide_eq_true_eq, List.all_eq_true, List.mem_range] at h
  obtain ⟨⟨⟨h1, h2⟩, h3⟩, h4⟩ := h
  refine ⟨h1, fun n x hx => ?_, fun n => ?_, fun r ru hru => ?_⟩
  · have := h2 n (List.getElem?_eq_some_iff.1 hx).1
    rw [hx] at this
    exact this
  · unfold ceAt
    by_cases hn : n < C.length
    · have := h3 C[n] (List.getElem_mem hn)
      have e : C.getD n ⟨0, none, none⟩ = C[n] := by simp [hn]
      rw [e]
      exact this
    · have e : C.getD n ⟨0, none, none⟩ = ⟨0, none, none⟩ := by simp [List.getElem?_eq_none (show C.length ≤ n by omega)]
      rw [e]
      exact ⟨by decide, rfl⟩
  · have := h4 r (List.getElem?_eq_some_iff.1 hru).1
    rw [hru] at this
    simpa only [Bool.and_eq_true, Bool.or_eq_true, decide_eq_true_eq] using this
def knN (k : Nat) : List Nd := ofT 0 (knL k)
def knR (k : Nat) : List Ru := gramR 0 0 (knL k)
def ce0 : List Ce := [⟨-4, none, none⟩, ⟨-7, none, none⟩, ⟨-3, none, none⟩, ⟨-4, none, none⟩, ⟨-4, none, none⟩]
def ce1 : List Ce := [⟨-4, none, none⟩, ⟨-10, none, none⟩, ⟨-3, none, none⟩, ⟨-4, none, none⟩, ⟨-3, none, none⟩, ⟨-10, none, none⟩, ⟨-3, none, none⟩, ⟨-4, none, none⟩, ⟨-3, none, none⟩, ⟨-4, none, none⟩]
def ce2 : List Ce := [⟨-4, none, none⟩, ⟨-7, none, none⟩, ⟨-3, none, none⟩, ⟨-4, none, none⟩, ⟨-4, none, none⟩, ⟨-4, none, none⟩, ⟨-7, none, none⟩, ⟨-3, none, none⟩, ⟨-4, none, none⟩, ⟨-4, none, none⟩]
def ce3 : List Ce := [⟨-3, some 0, none⟩, ⟨-3, none, none⟩, ⟨-2, some 1, none⟩, ⟨-4, none, none⟩, ⟨-1000, some 0, none⟩]
def ce4 : List Ce := [⟨-4, none, some 0⟩, ⟨-9, none, some 0⟩, ⟨-6, some 1, none⟩, ⟨-3, none, none⟩, ⟨-4, none, none⟩, ⟨-7, some 0, none⟩, ⟨-7, none, none⟩, ⟨-3, none, none⟩, ⟨-4, none, none⟩, ⟨-1000, some 0, none⟩]
def ce5 : List Ce := [⟨-4, none, none⟩, ⟨-4, none, none⟩, ⟨-1000, some 0, none⟩, ⟨-3, none, none⟩, ⟨-4, none, none⟩, ⟨-7, none, none⟩, ⟨-3, none, none⟩, ⟨-4, none, none⟩, ⟨-4, none, none⟩, ⟨-1000, some 0, none⟩, ⟨-4, none, none⟩, ⟨-4, none, none⟩]
def ce6 : List Ce := [⟨-3, some 0, none⟩, ⟨-3, some 0, none⟩, ⟨-3, none, none⟩, ⟨-3, some 0, none⟩, ⟨-3, none, none⟩, ⟨-4, none, none⟩, ⟨-7, none, none⟩, ⟨-3, none, none⟩, ⟨-4, none, none⟩, ⟨-4, none, none⟩, ⟨-4, none, none⟩, ⟨-7, none, none⟩, ⟨-3, none, none⟩, ⟨-4, none, none⟩, ⟨-4, none, none⟩]
def ce7 : List Ce := [⟨-4, none, none⟩, ⟨-6, none, none⟩, ⟨-3, none, none⟩, ⟨-3, none, none⟩, ⟨-4, none, none⟩, ⟨-4, none, none⟩]
def ce8 : List Ce := [⟨-4, none, none⟩, ⟨-7, none, none⟩, ⟨-4, none, none⟩, ⟨-3, none, none⟩, ⟨-4, none, none⟩]
def ce9 : List Ce := [⟨-2, none, none⟩, ⟨-6, some 0, none⟩, ⟨-6, none, none⟩, ⟨-6, none, none⟩, ⟨-2, none, none⟩, ⟨-4, none, none⟩, ⟨-6, none, none⟩, ⟨-2, none, none⟩, ⟨-4, none, none⟩, ⟨-2, none, none⟩, ⟨-3, none, none⟩, ⟨-4, none, none⟩, ⟨-4, none, none⟩, ⟨-3, none, none⟩, ⟨-4, none, none⟩, ⟨0, some 1, none⟩, ⟨-1, some 0, none⟩, ⟨-1, none, none⟩, ⟨-1000, some 0, none⟩]
def ce10 : List Ce := [⟨-1, some 1, none⟩, ⟨-1, none, none⟩, ⟨-2, some 1, none⟩, ⟨-4, none, none⟩, ⟨0, some 2, none⟩, ⟨-2, some 1, none⟩, ⟨-3, some 0, none⟩, ⟨-3, none, none⟩, ⟨-1000, some 0, none⟩, ⟨-4, none, none⟩, ⟨-4, none, none⟩, ⟨-2, some 1, none⟩, ⟨-1000, some 0, none⟩]
def ce11 : List Ce := [⟨-3, none, none⟩, ⟨-5, none, none⟩, ⟨-2, none, none⟩, ⟨-3, none, none⟩, ⟨-3, none, none⟩, ⟨-4, none, none⟩, ⟨-6, none, none⟩, ⟨-2, none, none⟩, ⟨-4, none, none⟩, ⟨-4, none, none⟩, ⟨-4, none, none⟩]
def knC : Nat → List Ce
  | 0 => ce0
  | 1 => ce1
  | 2 => ce2
  | 3 => ce3
  | 4 => ce4
  | 5 => ce5
  | 6 => ce6
  | 7 => ce7
  | 8 => ce8
  | 9 => ce9
  | 10 => ce10
  | _ => ce11
def knAll (k : Nat) : Bool := grRight (knR k) (knN k) && (knN k).all (fun x => ndB x && decide (x.text.size ≤ 1000)) && certB 4 (knR k) (knN k) (knC k)
theorem knAll_0 : knAll 0 = true := by kernel_rfl
theorem knAll_1 : knAll 1 = true := by kernel_rfl
theorem knAll_2 : knAll 2 = true := by kernel_rfl
theorem knAll_3 : knAll 3 = true := by kernel_rfl
theorem knAll_4 : knAll 4 = true := by kernel_rfl
theorem knAll_5 : knAll 5 = true := by kernel_rfl
theorem knAll_6 : knAll 6 = true := by kernel_rfl
theorem knAll_7 : knAll 7 = true := by kernel_rfl
theorem knAll_8 : knAll 8 = true := by kernel_rfl
theorem knAll_9 : knAll 9 = true := by kernel_rfl
theorem knAll_10 : knAll 10 = true := by kernel_rfl
theorem knAll_11 : knAll 11 = true := by kernel_rfl
theorem knAll_any (k : Nat) (h : k < 12) : knAll k = true := by
  match k, h with
  | 0, _ => exact knAll_0
  | 1, _ => exact knAll_1
  | 2, _ => exact knAll_2
  | 3, _ => exact knAll_3
  | 4, _ => exact knAll_4
  | 5, _ => exact knAll_5
  | 6, _ => exact knAll_6
  | 7, _ => exact knAll_7
  | 8, _ => exact knAll_8
  | 9, _ => exact knAll_9
  | 10, _ => exact knAll_10
  | 11, _ => exact knAll_11
  | k + 12, h => exact absurd h (by omega)
theorem kn_right {k : Nat} (h : k < 12) : grRight (knR k) (knN k) = true := by
  have := knAll_any k h
  unfold knAll at this
  simp only [Bool.and_eq_true] at this
  exact this.1.1
theorem kn_nd {k : Nat} (h : k < 12) : ∀ x ∈ knN k, NdP x := by
  have := knAll_any k h
  unfold knAll at this
  simp only [Bool.and_eq_true] at this
  intro x hx
  have h1 := List.all_eq_true.1 this.1.2 x hx
  simp only [Bool.and_eq_true, decide_eq_true_eq] at h1
  exact ndB_P h1.1 h1.2
theorem kn_ce {k : Nat} (h : k < 12) : CeOk 4 (knR k) (knN k) (knC k) := by
  have := knAll_any k h
  unfold knAll at this
  simp only [Bool.and_eq_true] at this
  exact cert_ok this.2
theorem kn_some {k : Nat} (h : k < 12) {W : List UInt8} (hW : W.length ≤ 2048) (doc : Bool) {r : Int} (lev : Int) (hr : 0 ≤ r) {p : Nat} (hp : p ≤ W.length) {ru : Ru} (hru : (knR k)[r.toNat]? = some ru) (T : Nat) :
    ∃ o s', freshE (ev doc (knR k) (knN k) W T) doc [] r lev p ru.body.toNat (T + 1) ⟨T, false⟩ = some (o, s') ∧ ∀ h, o = .hit h → p ≤ h.en ∧ h.en ≤ W.length ∧ h.forest.length ≤ 300000 :=
  top_some (kn_ce h) (right_gv (kn_right h)) hW doc lev hr hp hru T
end Go.Proofs.YtkimkghldilliaaGreat
