import Derived.Test.YtkimkghldilliaaGreatKnPm
namespace Go.Proofs.YtkimkghldilliaaGreat
open Go.RowKit Go.Lib

/-- a term. -/
inductive Xp
  | a
  | pl (l r : Xp)
  | st (l r : Xp)
namespace Xp
def len : Xp → Nat
  | .a => 1
  | .pl l r => l.len + 1 + r.len
  | .st l r => l.len + 1 + r.len
def ks : Xp → Nat
  | .a => 0
  | .pl _ _ => 2
  | .st _ _ => 2
def sz : Xp → Nat
  | .a => 0
  | .pl l r => l.sz + 1 + (r.sz + 1)
  | .st l r => l.sz + 1 + (r.sz + 1)
def body : Xp → Nat → List Tw
  | .a, _ => []
  | .pl l r, p => (⟨0, 1, p, ((p + l.len : Nat) : Int), l.ks⟩ :: l.body p) ++ (⟨0, 2, ((p + l.len + 1 : Nat) : Int), ((p + l.len + 1 + r.len : Nat) : Int), r.ks⟩ :: r.body (p + l.len + 1))
  | .st l r, p => (⟨0, 2, p, ((p + l.len : Nat) : Int), l.ks⟩ :: l.body p) ++ (⟨0, 3, ((p + l.len + 1 : Nat) : Int), ((p + l.len + 1 + r.len : Nat) : Int), r.ks⟩ :: r.body (p + l.len + 1))
def tw (x : Xp) (lev : Int) (p : Nat) : List Tw := ⟨0, lev, p, ((p + x.len : Nat) : Int), x.ks⟩ :: x.body p
def rs : Xp → Nat → List Nat
  | .a, _ => []
  | .pl l _, n => [n, n + 1 + l.sz]
  | .st l _, n => [n, n + 1 + l.sz]
/-- no plus. -/
def np : Xp → Bool
  | .a => true
  | .pl _ _ => false
  | .st l r => l.np && r.np
/-- it stands there. -/
def Ok (W : List UInt8) : Xp → Nat → Prop
  | .a, p => W[p]? = some 97
  | .pl l r, p => Ok W l p ∧ W[p + l.len]? = some 43 ∧ Ok W r (p + l.len + 1) ∧ r.np = true
  | .st l r, p => Ok W l p ∧ W[p + l.len]? = some 42 ∧ Ok W r (p + l.len + 1) ∧ r = .a ∧ l.np = true
theorem len_pos : ∀ x : Xp, 0 < x.len
  | .a => by simp [len]
  | .pl l r => by simp only [len]; omega
  | .st l r => by simp only [len]; omega
theorem sz_len : ∀ x : Xp, x.sz + 1 = x.len
  | .a => rfl
  | .pl l r => by have h1 := sz_len l; have h2 := sz_len r; simp only [sz, len]; omega
  | .st l r => by have h1 := sz_len l; have h2 := sz_len r; simp only [sz, len]; omega
theorem body_len : ∀ (x : Xp) (p : Nat), (x.body p).length = x.sz
  | .a, _ => rfl
  | .pl l r, p => by simp [body, sz, body_len l, body_len r]; omega
  | .st l r, p => by simp [body, sz, body_len l, body_len r]; omega
theorem body_pl (l r : Xp) (p : Nat) : (Xp.pl l r).body p = l.tw 1 p ++ r.tw 2 (p + l.len + 1) := rfl
theorem body_st (l r : Xp) (p : Nat) : (Xp.st l r).body p = l.tw 2 p ++ r.tw 3 (p + l.len + 1) := rfl
theorem tw_len (x : Xp) (lev : Int) (p : Nat) : (x.tw lev p).length = x.sz + 1 := by simp [tw, body_len]
theorem rs_len : ∀ (x : Xp) (n : Nat), (x.rs n).length = x.ks
  | .a, _ => rfl
  | .pl _ _, _ => rfl
  | .st _ _, _ => rfl
theorem ok_fits {W : List UInt8} : ∀ {x : Xp} {p : Nat}, Ok W x p → p + x.len ≤ W.length
  | .a, p, h => by
    have := (List.getElem?_eq_some_iff.1 h).1
    simp only [len]; omega
  | .pl l r, p, h => by
    have := ok_fits h.2.2.1
    simp only [len]; omega
  | .st l r, p, h => by
    have := ok_fits h.2.2.1
    simp only [len]; omega
/-- a's, with signs between. -/
theorem ok_alt {W : List UInt8} : ∀ {x : Xp} {p : Nat}, Ok W x p → x.len % 2 = 1 ∧ ∀ j, j < x.len → (j % 2 = 0 → W[p + j]? = some 97) ∧ (j % 2 = 1 → W[p + j]? = some 43 ∨ W[p + j]? = some 42)
  | .a, p, h => ⟨rfl, fun j hj => by
    simp only [len] at hj
    have : j = 0 := by omega
    subst this
    exact ⟨fun _ => h, fun h => by omega⟩⟩
  | .pl l r, p, h => by
    obtain ⟨h1, h2, h3, h4⟩ := h
    obtain ⟨l1, l2⟩ := ok_alt h1
    obtain ⟨r1, r2⟩ := ok_alt h3
    refine ⟨by simp only [len]; omega, fun j hj => ?_⟩
    simp only [len] at hj
    by_cases c1 : j < l.len
    · exact l2 j c1
    · by_cases c2 : j = l.len
      · subst c2
        exact ⟨fun h => by omega, fun _ => .inl h2⟩
      · have h5 := r2 (j - l.len - 1) (by omega)
        rw [show p + l.len + 1 + (j - l.len - 1) = p + j by omega] at h5
        exact ⟨fun h => h5.1 (by omega), fun h => h5.2 (by omega)⟩
  | .st l r, p, h => by
    obtain ⟨h1, h2, h3, h4⟩ := h
    obtain ⟨l1, l2⟩ := ok_alt h1
    obtain ⟨r1, r2⟩ := ok_alt h3
    refine ⟨by simp only [len]; omega, fun j hj => ?_⟩
    simp only [len] at hj
    by_cases c1 : j < l.len
    · exact l2 j c1
    · by_cases c2 : j = l.len
      · subst c2
        exact ⟨fun h => by omega, fun _ => .inr h2⟩
      · have h5 := r2 (j - l.len - 1) (by omega)
        rw [show p + l.len + 1 + (j - l.len - 1) = p + j by omega] at h5
        exact ⟨fun h => h5.1 (by omega), fun h => h5.2 (by omega)⟩
/-- without a plus there is none. -/
theorem ok_np {W : List UInt8} : ∀ {x : Xp} {p : Nat}, Ok W x p → x.np = true → ∀ j, j < x.len → W[p + j]? ≠ some 43
  | .a, p, h, hn, j, hj => by
    simp only [len] at hj
    have : j = 0 := by omega
    subst this
    simp only [Ok] at h
    rw [Nat.add_zero, h]
    simp
  | .pl l r, p, h, hn, j, hj => by simp [np] at hn
  | .st l r, p, h, hn, j, hj => by
    obtain ⟨h1, h2, h3, h4, h5⟩ := h
    simp only [len] at hj
    by_cases c1 : j < l.len
    · exact ok_np h1 h5 j c1
    · by_cases c2 : j = l.len
      · subst c2
        rw [h2]
        simp
      · have h6 := ok_np h3 (by subst h4; rfl) (j - l.len - 1) (by omega)
        rw [show p + l.len + 1 + (j - l.len - 1) = p + j by omega] at h6
        exact h6
/-- a twig and its kids stand from j on. -/
theorem tw_for_of (x : Xp) (hb : ∀ (p j : Nat) (T post : List Tw), T.drop j = x.body p ++ post → For T p ((p + x.len : Nat) : Int) p j (j + x.sz) (x.rs j)) {lev : Int} {p j : Nat} {T post : List Tw} {lo hi a : Int} {e : Nat} {rs : List Nat} (hl : 0 ≤ lev ∧ lev ≤ 99) (hd : T.drop j = x.tw lev p ++ post) (h1 : lo ≤ p) (h2 : ((p + x.len : Nat) : Int) ≤ hi) (h3 : a ≤ p)
    (hc : For T lo hi ((p + x.len : Nat) : Int) (j + 1 + x.sz) e rs) : For T lo hi a j e (j :: rs) := by
  have hj : j < T.length := by
    rcases Nat.lt_or_ge j T.length with h | h
    · exact h
    · rw [List.drop_eq_nil_of_le h] at hd
      simp [tw] at hd
  have hat : atT T j = ⟨0, lev, p, ((p + x.len : Nat) : Int), x.ks⟩ := by
    have h4 : (T.drop j)[0]? = T[j]? := by simp
    rw [hd] at h4
    simp only [tw, List.cons_append, List.getElem?_cons_zero] at h4
    simp [atT, ← h4]
  have hd2 : T.drop (j + 1) = x.body p ++ post := by
    rw [← List.drop_drop, hd]
    simp [tw]
  refine .cons (m := j + 1 + x.sz) (ks := x.rs (j + 1)) hj ?_ (by rw [hat]; exact h1) (by rw [hat]; exact h2) (by rw [hat]; exact h3) ?_ ?_ ?_
  · rw [hat]
    refine ⟨Int.le_refl _, hl.1, hl.2, by simp only; omega, by simp only; omega, by simp only; omega⟩
  · rw [hat]
    exact hb p (j + 1) T post hd2
  · rw [hat, rs_len]
  · rw [hat]
    exact hc
theorem body_for : ∀ (x : Xp) (p j : Nat) (T post : List Tw), T.drop j = x.body p ++ post → For T p ((p + x.len : Nat) : Int) p j (j + x.sz) (x.rs j)
  | .a, p, j, T, post, hd => .nil
  | .pl l r, p, j, T, post, hd => by
    rw [body_pl, List.append_assoc] at hd
    have hd2 : T.drop (j + 1 + l.sz) = r.tw 2 (p + l.len + 1) ++ post := by
      rw [show j + 1 + l.sz = j + (l.sz + 1) by omega, ← List.drop_drop, hd, ← tw_len l 1 p]
      simp
    refine tw_for_of l (body_for l) (lev := 1) (p := p) (by omega) hd (Int.le_refl _) (by simp only [len]; omega) (Int.le_refl _) ?_
    refine tw_for_of r (body_for r) (lev := 2) (p := p + l.len + 1) (by omega) hd2 (by omega) (by simp only [len]; omega) (by omega) ?_
    rw [show j + (Xp.pl l r).sz = j + 1 + l.sz + 1 + r.sz by simp only [sz]; omega]
    exact .nil
  | .st l r, p, j, T, post, hd => by
    rw [body_st, List.append_assoc] at hd
    have hd2 : T.drop (j + 1 + l.sz) = r.tw 3 (p + l.len + 1) ++ post := by
      rw [show j + 1 + l.sz = j + (l.sz + 1) by omega, ← List.drop_drop, hd, ← tw_len l 2 p]
      simp
    refine tw_for_of l (body_for l) (lev := 2) (p := p) (by omega) hd (Int.le_refl _) (by simp only [len]; omega) (Int.le_refl _) ?_
    refine tw_for_of r (body_for r) (lev := 3) (p := p + l.len + 1) (by omega) hd2 (by omega) (by simp only [len]; omega) (by omega) ?_
    rw [show j + (Xp.st l r).sz = j + 1 + l.sz + 1 + r.sz by simp only [sz]; omega]
    exact .nil
theorem for_widen {l : List Tw} {lo hi a : Int} {n e : Nat} {rs : List Nat} (h : For l lo hi a n e rs) : ∀ {lo2 hi2 a2 : Int}, lo2 ≤ lo → hi ≤ hi2 → a2 ≤ a → For l lo2 hi2 a2 n e rs := by
  induction h with
  | nil => intro lo2 hi2 a2 _ _ _; exact .nil
  | @cons lo hi a n m e ks rs h0 hk hlo hhi ha h3 h5 h4 h1 h2 =>
    intro lo2 hi2 a2 g1 g2 g3
    exact .cons h0 hk (Int.le_trans g1 hlo) (Int.le_trans hhi g2) (Int.le_trans g3 ha) h3 h5 (h2 g1 g2 (Int.le_refl _))
/-- as many roots as kids. -/
theorem body_top (x : Xp) (p : Nat) (hp : p + x.len ≤ 1000000) : (topR (x.body p)).length = x.ks := by
  have h := body_for x p 0 (x.body p) [] (by simp)
  rw [Nat.zero_add, ← body_len x p] at h
  have h2 : For (x.body p) 0 9223372036854775807 0 0 (x.body p).length (x.rs 0) := for_widen h (by omega) (by omega) (by omega)
  rw [topR_of ((rightB_iff _).2 ⟨_, h2⟩) h2, rs_len]
/-- each twig is one of a term that stands there. -/
theorem at_sub {W : List UInt8} : ∀ (x : Xp) (lev : Int) (p : Nat), Ok W x p → (0 ≤ lev ∧ lev ≤ 99) → ∀ i, i < x.sz + 1 → ∃ (y : Xp) (v : Int) (q : Nat) (post : List Tw), (x.tw lev p).drop i = y.tw v q ++ post ∧ Ok W y q ∧ p ≤ q ∧ q + y.len ≤ p + x.len ∧ 0 ≤ v ∧ v ≤ 99
  | x, lev, p, h, hl, 0, hi => ⟨x, lev, p, [], by simp, h, Nat.le_refl _, Nat.le_refl _, hl⟩
  | .a, lev, p, h, hl, i + 1, hi => by simp only [sz] at hi; omega
  | .pl l r, lev, p, h, hl, i + 1, hi => by
    have e : ((Xp.pl l r).tw lev p).drop (i + 1) = (l.tw 1 p ++ r.tw 2 (p + l.len + 1)).drop i := by simp only [tw, List.drop_succ_cons, body_pl]
    simp only [sz] at hi
    by_cases c : i < l.sz + 1
    · obtain ⟨y, v, q, post, h1, h2, h3, h4, h5⟩ := at_sub l 1 p h.1 (by omega) i c
      exact ⟨y, v, q, post ++ r.tw 2 (p + l.len + 1), by rw [e, List.drop_append_of_le_length (by rw [tw_len]; omega), h1, List.append_assoc], h2, h3, by simp only [len]; omega, h5⟩
    · obtain ⟨y, v, q, post, h1, h2, h3, h4, h5⟩ := at_sub r 2 (p + l.len + 1) h.2.2.1 (by omega) (i - (l.sz + 1)) (by omega)
      refine ⟨y, v, q, post, ?_, h2, by omega, by simp only [len]; omega, h5⟩
      rw [e, List.drop_append, List.drop_eq_nil_of_le (by rw [tw_len]; omega), List.nil_append, tw_len, h1]
  | .st l r, lev, p, h, hl, i + 1, hi => by
    have e : ((Xp.st l r).tw lev p).drop (i + 1) = (l.tw 2 p ++ r.tw 3 (p + l.len + 1)).drop i := by simp only [tw, List.drop_succ_cons, body_st]
    simp only [sz] at hi
    by_cases c : i < l.sz + 1
    · obtain ⟨y, v, q, post, h1, h2, h3, h4, h5⟩ := at_sub l 2 p h.1 (by omega) i c
      exact ⟨y, v, q, post ++ r.tw 3 (p + l.len + 1), by rw [e, List.drop_append_of_le_length (by rw [tw_len]; omega), h1, List.append_assoc], h2, h3, by simp only [len]; omega, h5⟩
    · obtain ⟨y, v, q, post, h1, h2, h3, h4, h5⟩ := at_sub r 3 (p + l.len + 1) h.2.2.1 (by omega) (i - (l.sz + 1)) (by omega)
      refine ⟨y, v, q, post, ?_, h2, by omega, by simp only [len]; omega, h5⟩
      rw [e, List.drop_append, List.drop_eq_nil_of_le (by rw [tw_len]; omega), List.nil_append, tw_len, h1]
end Xp
end Go.Proofs.YtkimkghldilliaaGreat
namespace Go.Proofs.YtkimkghldilliaaGreat
open Go.RowKit Go.Lib

def lvN : List Nd := [bare 7 [1, 5, 9], bare 6 [2, 3, 4], callN 0 1, wordN ⟨#[43]⟩, callN 0 2, bare 6 [6, 7, 8], callN 0 2, wordN ⟨#[42]⟩, callN 0 3, wordN ⟨#[97]⟩]
theorem lvN_eq : knN 1 = lvN := rfl
def lvR : List Ru := [⟨nameN 0, 0⟩]
theorem lvR_eq : knR 1 = lvR := rfl
section
variable {W : List UInt8}
theorem txt_hit {c : UInt8} {p : Nat} (h : W[p]? = some c) : textAt W [c] p = .hit (upTo (p + 1)) := by
  rw [textAt, if_pos h]
  rfl
theorem txt_miss {c : UInt8} {p : Nat} (h : W[p]? ≠ some c) : textAt W [c] p = .miss p := by
  rw [textAt, if_neg h]
theorem one43 : (⟨#[43]⟩ : ByteArray).data.toList = [43] := rfl
theorem one42 : (⟨#[42]⟩ : ByteArray).data.toList = [42] := rfl
theorem one97 : (⟨#[97]⟩ : ByteArray).data.toList = [97] := rfl
/-- no seed: only the byte. -/
theorem none_hit (L : Lv) (f l p : Nat) (hk : L.lookup (0, (p : Int)) = some none) (hA : W[p]? = some 97) : ev false lvR lvN W (f + 3) 0 p L ⟨l + 6, false⟩ = some (.hit ⟨p + 1, -1, 0, []⟩, ⟨l, false⟩) := by
  have h1 := txt_hit hA
  simp [ev, nodeE, lvN, bare, callN, wordN, altE, seqE, callE, upTo, hk, h1, one97, Ht.tried]
theorem none_miss (L : Lv) (f l p : Nat) (hk : L.lookup (0, (p : Int)) = some none) (hA : W[p]? ≠ some 97) : ev false lvR lvN W (f + 3) 0 p L ⟨l + 6, false⟩ = some (.miss p, ⟨l, false⟩) := by
  have h1 := txt_miss hA
  simp [ev, nodeE, lvN, bare, callN, wordN, altE, seqE, callE, upTo, hk, h1, one97, Ht.tried]
  omega
theorem deaf3 (L : Lv) (f l p e : Nat) (t : List Tw) (hk : L.lookup (0, (p : Int)) = some (some ⟨e, 3, t⟩)) (hA : W[p]? = some 97) : ev false lvR lvN W (f + 3) 0 p L ⟨l + 6, false⟩ = some (.hit ⟨p + 1, -1, 0, []⟩, ⟨l, false⟩) := by
  have h1 := txt_hit hA
  simp [ev, nodeE, lvN, bare, callN, wordN, altE, seqE, callE, upTo, hk, h1, one97, Ht.tried]
theorem call3_hit (L : Lv) (f l p n : Nat) (hk : L.lookup (0, (p : Int)) = none) (hA : W[p]? = some 97) : freshE (ev false lvR lvN W (f + 3)) false L 0 3 p 0 (n + 1) ⟨l + 12, false⟩ = some (.hit ⟨p + 1, -1, 1, Xp.a.tw 3 p⟩, ⟨l, false⟩) := by
  unfold freshE
  rw [none_hit _ f (l + 6) p (lookup_push hk _) hA]
  simp only
  rw [growE, if_neg (by simp), deaf3 _ f l p (p + 1) [] (lookup_push hk _) hA]
  simp [Ht.tried, Ht.called, lim, Xp.tw, Xp.len, Xp.ks, Xp.body]
theorem call3_miss (L : Lv) (f l p n : Nat) (hk : L.lookup (0, (p : Int)) = none) (hA : W[p]? ≠ some 97) : freshE (ev false lvR lvN W (f + 3)) false L 0 3 p 0 n ⟨l + 6, false⟩ = some (.miss p, ⟨l, false⟩) := by
  unfold freshE
  rw [none_miss _ f l p (lookup_push hk _) hA]
/-- a call that is live: the seed, as a call's. -/
def seedH (lev : Int) (p e : Nat) (x : Xp) : Ht := ⟨e, -1, 1, ⟨0, lev, p, (e : Int), x.ks⟩ :: x.body p⟩
section
variable {L : Lv} {g l p e : Nat} {x : Xp}
/-- level 2, a seed, what is behind it is given: a star and an a. -/
theorem two_star (hz : e + 1 ≤ 1000) (hs : x.sz ≤ 1000) (ht : (topR (x.body p)).length = x.ks) (hk : L.lookup (0, (p : Int)) = some (some ⟨e, 2, x.body p⟩)) (hn : L.lookup (0, (e : Int) + 1) = none) (h4 : textAt W [42] e = .hit (upTo (e + 1)))
    (h5 : freshE (ev false lvR lvN W g) false L 0 3 (e + 1) 0 (g + 1) ⟨l + 12, false⟩ = some (.hit ⟨e + 1 + 1, -1, 1, Xp.a.tw 3 (e + 1)⟩, ⟨l, false⟩)) :
    ev false lvR lvN W (g + 3) 0 p L ⟨l + 19, false⟩ = some (.hit ⟨e + 1 + 1, -1, 2, (seedH 2 p e x).forest ++ Xp.a.tw 3 (e + 1)⟩, ⟨l, false⟩) := by
  have hb := Xp.body_len x p
  have hl1 : (x.body p).length + 1 ≤ lim := by unfold lim; omega
  have hl2 : (x.body p).length + 1 + 1 ≤ lim := by unfold lim; omega
  have hl3 : (Xp.a.tw 3 (e + 1)).length = 1 := rfl
  have h5' : freshE (ev false [⟨nameN 0, 0⟩] lvN W g) false L 0 3 (e + 1) 0 (g + 1) ⟨l + 12, false⟩ = some (.hit ⟨e + 1 + 1, -1, 1, Xp.a.tw 3 (e + 1)⟩, ⟨l, false⟩) := h5
  simp only [lvN, bare, callN, wordN] at h5'
  simp [ev, nodeE, lvN, lvR, bare, callN, wordN, altE, seqE, callE, upTo, hk, h4, one42, Ht.tried, Ht.called, Ht.then, hn, h5', ht, hl1, hl2, hl3, seedH]
/-- level 2, a seed: no star, or no a behind it. -/
theorem two_stop1 (hz : e + 1 ≤ 1000) (hs : x.sz ≤ 1000) (hk : L.lookup (0, (p : Int)) = some (some ⟨e, 2, x.body p⟩)) (hA : textAt W [97] p = .hit (upTo (p + 1))) (h4 : textAt W [42] e = .miss e) :
    ev false lvR lvN W (g + 3) 0 p L ⟨l + 7, false⟩ = some (.hit ⟨p + 1, max (-1) (max (e : Int) (-1)), 0, []⟩, ⟨l, false⟩) := by
  have hb := Xp.body_len x p
  have hl1 : (x.body p).length + 1 ≤ lim := by unfold lim; omega
  skip
  simp [ev, nodeE, lvN, lvR, bare, callN, wordN, altE, seqE, callE, upTo, hk, h4, hA, one42, one97, Ht.tried, Ht.called, Ht.then, hl1]
  try omega
theorem two_stop2 (hz : e + 1 ≤ 1000) (hs : x.sz ≤ 1000) (hk : L.lookup (0, (p : Int)) = some (some ⟨e, 2, x.body p⟩)) (hA : textAt W [97] p = .hit (upTo (p + 1))) (hn : L.lookup (0, (e : Int) + 1) = none) (h4 : textAt W [42] e = .hit (upTo (e + 1)))
    (h5 : freshE (ev false lvR lvN W g) false L 0 3 (e + 1) 0 (g + 1) ⟨l + 7, false⟩ = some (.miss ((e + 1 : Nat) : Int), ⟨l + 1, false⟩)) :
    ev false lvR lvN W (g + 3) 0 p L ⟨l + 14, false⟩ = some (.hit ⟨p + 1, max (-1) (max ((e + 1 : Nat) : Int) (-1)), 0, []⟩, ⟨l, false⟩) := by
  have hb := Xp.body_len x p
  have hl1 : (x.body p).length + 1 ≤ lim := by unfold lim; omega
  have h5' := h5
  simp only [lvN, lvR, bare, callN, wordN] at h5'
  skip
  simp [ev, nodeE, lvN, lvR, bare, callN, wordN, altE, seqE, callE, upTo, hk, h4, hA, one42, one97, Ht.tried, Ht.called, Ht.then, hl1, hn, h5']
  try omega
/-- level 0, a seed: a plus and a call of level 2. -/
theorem top_plus {y : Ht} {l2 : Nat} (hz : e + 1 ≤ 1000) (hs : x.sz ≤ 1000) (hy : y.forest.length ≤ 1000) (hf : -1 ≤ y.far) (ht : (topR (x.body p)).length = x.ks) (hk : L.lookup (0, (p : Int)) = some (some ⟨e, 0, x.body p⟩)) (hn : L.lookup (0, (e : Int) + 1) = none) (h4 : textAt W [43] e = .hit (upTo (e + 1)))
    (h5 : freshE (ev false lvR lvN W g) false L 0 2 (e + 1) 0 (g + 1) ⟨l, false⟩ = some (.hit y, ⟨l2, false⟩)) :
    ev false lvR lvN W (g + 3) 0 p L ⟨l + 5, false⟩ = some (.hit ⟨y.en, y.far, 1 + y.roots, (seedH 1 p e x).forest ++ y.forest⟩, ⟨l2, false⟩) := by
  have hb := Xp.body_len x p
  have hl1 : (x.body p).length + 1 ≤ lim := by unfold lim; omega
  have hl2 : (x.body p).length + 1 + y.forest.length ≤ lim := by unfold lim; omega
  have h5' := h5
  simp only [lvN, lvR, bare, callN, wordN] at h5'
  have hm : max (-1 : Int) y.far = y.far := by omega
  simp [ev, nodeE, lvN, lvR, bare, callN, wordN, altE, seqE, callE, upTo, hk, h4, one43, Ht.tried, Ht.called, Ht.then, hn, h5', ht, hl1, hl2, seedH, hm]
/-- level 0, a seed: a star and a call of level 3. -/
theorem top_star (hz : e + 1 ≤ 1000) (hs : x.sz ≤ 1000) (ht : (topR (x.body p)).length = x.ks) (hk : L.lookup (0, (p : Int)) = some (some ⟨e, 0, x.body p⟩)) (hn : L.lookup (0, (e : Int) + 1) = none) (h3 : textAt W [43] e = .miss e) (h4 : textAt W [42] e = .hit (upTo (e + 1)))
    (h5 : freshE (ev false lvR lvN W g) false L 0 3 (e + 1) 0 (g + 1) ⟨l + 12, false⟩ = some (.hit ⟨e + 1 + 1, -1, 1, Xp.a.tw 3 (e + 1)⟩, ⟨l, false⟩)) :
    ev false lvR lvN W (g + 3) 0 p L ⟨l + 20, false⟩ = some (.hit ⟨e + 1 + 1, max (-1) (max (e : Int) (-1)), 2, (seedH 2 p e x).forest ++ Xp.a.tw 3 (e + 1)⟩, ⟨l, false⟩) := by
  have hb := Xp.body_len x p
  have hl1 : (x.body p).length + 1 ≤ lim := by unfold lim; omega
  have hl2 : (x.body p).length + 1 + 1 ≤ lim := by unfold lim; omega
  have hl3 : (Xp.a.tw 3 (e + 1)).length = 1 := rfl
  have h5' := h5
  simp only [lvN, lvR, bare, callN, wordN] at h5'
  skip
  simp [ev, nodeE, lvN, lvR, bare, callN, wordN, altE, seqE, callE, upTo, hk, h3, h4, one43, one42, Ht.tried, Ht.called, Ht.then, hn, h5', ht, hl1, hl2, hl3, seedH]
  try omega
/-- level 0, a seed: nothing behind it. -/
theorem top_stop1 (hz : e + 1 ≤ 1000) (hs : x.sz ≤ 1000) (hk : L.lookup (0, (p : Int)) = some (some ⟨e, 0, x.body p⟩)) (hA : textAt W [97] p = .hit (upTo (p + 1))) (h3 : textAt W [43] e = .miss e) (h4 : textAt W [42] e = .miss e) :
    ev false lvR lvN W (g + 3) 0 p L ⟨l + 8, false⟩ = some (.hit ⟨p + 1, max (max (-1) (max (e : Int) (-1))) (max (e : Int) (-1)), 0, []⟩, ⟨l, false⟩) := by
  have hb := Xp.body_len x p
  have hl1 : (x.body p).length + 1 ≤ lim := by unfold lim; omega
  skip
  simp [ev, nodeE, lvN, lvR, bare, callN, wordN, altE, seqE, callE, upTo, hk, h3, h4, hA, one43, one42, one97, Ht.tried, Ht.called, Ht.then, hl1]
  try omega
theorem top_stop2 (hz : e + 1 ≤ 1000) (hs : x.sz ≤ 1000) (hk : L.lookup (0, (p : Int)) = some (some ⟨e, 0, x.body p⟩)) (hA : textAt W [97] p = .hit (upTo (p + 1))) (hn : L.lookup (0, (e : Int) + 1) = none) (h3 : textAt W [43] e = .hit (upTo (e + 1))) (h4 : textAt W [42] e = .miss e)
    (h5 : freshE (ev false lvR lvN W g) false L 0 2 (e + 1) 0 (g + 1) ⟨l + 10, false⟩ = some (.miss ((e + 1 : Nat) : Int), ⟨l + 4, false⟩)) :
    ev false lvR lvN W (g + 3) 0 p L ⟨l + 15, false⟩ = some (.hit ⟨p + 1, max (max (-1) (max ((e + 1 : Nat) : Int) (-1))) (max (e : Int) (-1)), 0, []⟩, ⟨l, false⟩) := by
  have hb := Xp.body_len x p
  have hl1 : (x.body p).length + 1 ≤ lim := by unfold lim; omega
  have h5' := h5
  simp only [lvN, lvR, bare, callN, wordN] at h5'
  skip
  simp [ev, nodeE, lvN, lvR, bare, callN, wordN, altE, seqE, callE, upTo, hk, h3, h4, hA, one43, one42, one97, Ht.tried, Ht.called, Ht.then, hl1, hn, h5']
  try omega
theorem top_stop3 (hz : e + 1 ≤ 1000) (hs : x.sz ≤ 1000) (hk : L.lookup (0, (p : Int)) = some (some ⟨e, 0, x.body p⟩)) (hA : textAt W [97] p = .hit (upTo (p + 1))) (hn : L.lookup (0, (e : Int) + 1) = none) (h3 : textAt W [43] e = .miss e) (h4 : textAt W [42] e = .hit (upTo (e + 1)))
    (h5 : freshE (ev false lvR lvN W g) false L 0 3 (e + 1) 0 (g + 1) ⟨l + 7, false⟩ = some (.miss ((e + 1 : Nat) : Int), ⟨l + 1, false⟩)) :
    ev false lvR lvN W (g + 3) 0 p L ⟨l + 15, false⟩ = some (.hit ⟨p + 1, max (max (-1) (max (e : Int) (-1))) (max ((e + 1 : Nat) : Int) (-1)), 0, []⟩, ⟨l, false⟩) := by
  have hb := Xp.body_len x p
  have hl1 : (x.body p).length + 1 ≤ lim := by unfold lim; omega
  have h5' := h5
  simp only [lvN, lvR, bare, callN, wordN] at h5'
  skip
  simp [ev, nodeE, lvN, lvR, bare, callN, wordN, altE, seqE, callE, upTo, hk, h3, h4, hA, one43, one42, one97, Ht.tried, Ht.called, Ht.then, hl1, hn, h5']
  try omega
end
end
end Go.Proofs.YtkimkghldilliaaGreat
namespace Go.Proofs.YtkimkghldilliaaGreat
open Go.RowKit Go.Lib

theorem lookup_other {L : Lv} {k k' : Pr} (h : L.lookup k = none) (hne : k ≠ k') (v : Option Sd) : (L ++ [(k', v)]).lookup k = none := by
  induction L with
  | nil =>
    have h1 : (k == k') = false := by simpa using hne
    simp [List.lookup, h1]
  | cons x L ih =>
    obtain ⟨a, b⟩ := x
    rw [List.cons_append, List.lookup_cons]
    rw [List.lookup_cons] at h
    split at h
    · cases h
    · exact ih h
/-- live, with a seed on top. -/
def onTop (L : Lv) (p : Nat) (e : Nat) (lev : Int) (x : Xp) : Lv := L ++ [((0, (p : Int)), some ⟨e, lev, x.body p⟩)]
section
variable {W : List UInt8}
theorem seedH_tw (lev : Int) (p : Nat) (x : Xp) : (seedH lev p (p + x.len) x).forest = x.tw lev p := rfl
theorem onTop_at {L : Lv} {p : Nat} (h : L.lookup (0, (p : Int)) = none) (e : Nat) (lev : Int) (x : Xp) : (onTop L p e lev x).lookup (0, (p : Int)) = some (some ⟨e, lev, x.body p⟩) := lookup_push h _
theorem onTop_off {L : Lv} {p q : Nat} (h : L.lookup (0, (q : Int)) = none) (hne : q ≠ p) (e : Nat) (lev : Int) (x : Xp) : (onTop L p e lev x).lookup (0, (q : Int)) = none := lookup_other h (by intro e; simp only [Prod.mk.injEq] at e; omega) _
/-- level 2 grows. -/
theorem grow2 (hW : W.length ≤ 200) {L : Lv} {p : Nat} (hA : W[p]? = some 97) (hfree : ∀ q : Nat, p ≤ q → L.lookup (0, (q : Int)) = none) : ∀ (d : Nat) (x : Xp) (last : Ht) (nf far : Int), W.length - (p + x.len) ≤ d → Xp.Ok W x p → x.np = true → -1 ≤ far →
    ∃ (y : Xp) (far2 nf2 : Int) (c : Nat), Xp.Ok W y p ∧ y.np = true ∧ -1 ≤ far2 ∧ c ≤ 20 * d + 14 ∧ ¬ (W[p + y.len]? = some 42 ∧ W[p + y.len + 1]? = some 97) ∧
      ∀ f l n, d < n → growE (ev false lvR lvN W (f + 6)) false L 0 2 p 0 n last ⟨p + x.len, nf, x.ks, x.body p⟩ far ⟨l + c, false⟩ = some (⟨p + y.len, nf2, y.ks, y.body p⟩, far2, ⟨l, false⟩)
  | d, x, last, nf, far, hd, hx, hnp, hfar => by
    have hfit := Xp.ok_fits hx
    have hpos := Xp.len_pos x
    have hsz := Xp.sz_len x
    have htop := Xp.body_top x p (by omega)
    have hk := onTop_at (hfree p (Nat.le_refl _)) (p + x.len) 2 x
    have hn := onTop_off (p := p) (hfree (p + x.len + 1) (by omega)) (by omega) (p + x.len) 2 x
    have hn' : (onTop L p (p + x.len) 2 x).lookup (0, ((p + x.len : Nat) : Int) + 1) = none := hn
    by_cases h1 : W[p + x.len]? = some 42
    · by_cases h2 : W[p + x.len + 1]? = some 97
      · have hlt : p + x.len + 1 < W.length := (List.getElem?_eq_some_iff.1 h2).1
        obtain ⟨d, rfl⟩ : ∃ d', d = d' + 1 := ⟨d - 1, by omega⟩
        have hx' : Xp.Ok W (.st x .a) p := ⟨hx, h1, h2, rfl, hnp⟩
        obtain ⟨y, far2, nf2, c, g1, g2, g3, g4, g5, g6⟩ := grow2 hW hA hfree d (.st x .a) ⟨p + x.len, nf, x.ks, x.body p⟩ (-1) (max far (-1)) (by simp only [Xp.len]; omega) hx' (by simp [Xp.np, hnp]) (by omega)
        refine ⟨y, far2, nf2, c + 19, g1, g2, g3, by omega, g5, fun f l n hdn => ?_⟩
        obtain ⟨n, rfl⟩ : ∃ n', n = n' + 1 := ⟨n - 1, by omega⟩
        have hst := two_star (g := f + 3) (l := l + c) (by omega) (by omega) htop hk hn' (txt_hit h1) (call3_hit _ f (l + c) (p + x.len + 1) (f + 3) hn h2)
        unfold onTop at hst
        rw [growE, if_neg (by simp), show l + (c + 19) = l + c + 19 by omega, hst]
        simp only
        rw [if_neg (by omega)]
        have := g6 f l n (by omega)
        rw [show p + (Xp.st x .a).len = p + x.len + 1 + 1 by simp only [Xp.len]; omega, Xp.body_st] at this
        exact this
      · refine ⟨x, max far (max (-1) (max ((p + x.len + 1 : Nat) : Int) (-1))), nf, 14, hx, hnp, (by omega), by omega, fun h => h2 h.2, fun f l n hdn => ?_⟩
        · obtain ⟨n, rfl⟩ : ∃ n', n = n' + 1 := ⟨n - 1, by omega⟩
          have hst := two_stop2 (g := f + 3) (l := l) (by omega) (by omega) hk (txt_hit hA) hn' (txt_hit h1) (call3_miss _ f (l + 1) (p + x.len + 1) (f + 3 + 1) hn h2)
          unfold onTop at hst
          rw [growE, if_neg (by simp), hst]
          simp only
          rw [if_pos (by omega)]
    · refine ⟨x, max far (max (-1) (max ((p + x.len : Nat) : Int) (-1))), nf, 7, hx, hnp, (by omega), by omega, fun h => h1 h.1, fun f l n hdn => ?_⟩
      · obtain ⟨n, rfl⟩ : ∃ n', n = n' + 1 := ⟨n - 1, by omega⟩
        have hst := two_stop1 (g := f + 3) (l := l) (by omega) (by omega) hk (txt_hit hA) (txt_miss h1)
        unfold onTop at hst
        rw [growE, if_neg (by simp), hst]
        simp only
        rw [if_pos (by omega)]
/-- a call of level 2. -/
theorem call2_hit (hW : W.length ≤ 200) {L : Lv} {p : Nat} (hA : W[p]? = some 97) (hfree : ∀ q : Nat, p ≤ q → L.lookup (0, (q : Int)) = none) :
    ∃ (y : Xp) (far : Int) (c : Nat), Xp.Ok W y p ∧ y.np = true ∧ -1 ≤ far ∧ c ≤ 20 * W.length + 20 ∧ ¬ (W[p + y.len]? = some 42 ∧ W[p + y.len + 1]? = some 97) ∧
      ∀ f l n, W.length < n → freshE (ev false lvR lvN W (f + 6)) false L 0 2 p 0 n ⟨l + c, false⟩ = some (.hit ⟨p + y.len, far, 1, y.tw 2 p⟩, ⟨l, false⟩) := by
  obtain ⟨y, far2, nf2, c, g1, g2, g3, g4, g5, g6⟩ := grow2 hW hA hfree W.length .a ⟨p + 1, -1, 0, []⟩ (-1) (-1) (by omega) hA rfl (by omega)
  have hfit := Xp.ok_fits g1
  have hsz := Xp.sz_len y
  have hb := Xp.body_len y p
  refine ⟨y, max nf2 far2, c + 6, g1, g2, by omega, by omega, g5, fun f l n hn => ?_⟩
  unfold freshE
  rw [show l + (c + 6) = l + c + 6 by omega, none_hit _ (f + 3) (l + c) p (lookup_push (hfree p (Nat.le_refl _)) _) hA]
  simp only
  have := g6 f l n hn
  rw [show Xp.a.len = 1 from rfl, show Xp.a.ks = 0 from rfl, show Xp.a.body p = [] from rfl] at this
  rw [this]
  simp only
  rw [called_some (by simp only [Ht.tried]; omega)]
  rfl
theorem call2_miss {L : Lv} {p : Nat} (hA : W[p]? ≠ some 97) (hfree : L.lookup (0, (p : Int)) = none) (f l n : Nat) : freshE (ev false lvR lvN W (f + 6)) false L 0 2 p 0 n ⟨l + 6, false⟩ = some (.miss p, ⟨l, false⟩) := by
  unfold freshE
  rw [none_miss _ (f + 3) l p (lookup_push hfree _) hA]
/-- what stands behind a term is no sign and a. -/
def Ends (W : List UInt8) (e : Nat) : Prop := ¬ ((W[e]? = some 43 ∨ W[e]? = some 42) ∧ W[e + 1]? = some 97)
/-- the whole grows. -/
theorem grow0 (hW : W.length ≤ 200) (hA : W[0]? = some 97) : ∀ (d : Nat) (x : Xp) (last : Ht) (nf far : Int), W.length - x.len ≤ d → Xp.Ok W x 0 → (x.np = true ∨ ¬ (W[x.len]? = some 42 ∧ W[x.len + 1]? = some 97)) → -1 ≤ far →
    ∃ (y : Xp) (far2 nf2 : Int) (c : Nat), Xp.Ok W y 0 ∧ -1 ≤ far2 ∧ c ≤ (d + 1) * 5000 ∧ Ends W y.len ∧
      ∀ f l n, d < n → W.length ≤ f → growE (ev false lvR lvN W (f + 9)) false [] 0 0 0 0 n last ⟨x.len, nf, x.ks, x.body 0⟩ far ⟨l + c, false⟩ = some (⟨y.len, nf2, y.ks, y.body 0⟩, far2, ⟨l, false⟩)
  | d, x, last, nf, far, hd, hx, hnp, hfar => by
    have hfit := Xp.ok_fits hx
    rw [Nat.zero_add] at hfit
    have hpos := Xp.len_pos x
    have hsz := Xp.sz_len x
    have htop := Xp.body_top x 0 (by omega)
    have hk := onTop_at (L := []) (p := 0) rfl x.len 0 x
    have hfree : ∀ q : Nat, x.len + 1 ≤ q → (onTop [] 0 x.len 0 x).lookup (0, (q : Int)) = none := fun q hq => onTop_off (p := 0) (q := q) rfl (by omega) x.len 0 x
    have hn := hfree (x.len + 1) (Nat.le_refl _)
    have hn' : (onTop [] 0 x.len 0 x).lookup (0, ((x.len : Nat) : Int) + 1) = none := hn
    by_cases h1 : W[x.len]? = some 43
    · have h42 : W[x.len]? ≠ some 42 := by rw [h1]; decide
      by_cases h2 : W[x.len + 1]? = some 97
      · have hlt : x.len + 1 < W.length := (List.getElem?_eq_some_iff.1 h2).1
        obtain ⟨d, rfl⟩ : ∃ d', d = d' + 1 := ⟨d - 1, by omega⟩
        obtain ⟨r, fr, c2, r1, r2, r3, r4, r5, r6⟩ := call2_hit hW h2 hfree
        have hrp := Xp.len_pos r
        have hrf := Xp.ok_fits r1
        have hrs := Xp.sz_len r
        have hx' : Xp.Ok W (.pl x r) 0 := ⟨hx, by rw [Nat.zero_add]; exact h1, by rw [Nat.zero_add]; exact r1, r2⟩
        have hlen : (Xp.pl x r).len = x.len + 1 + r.len := rfl
        obtain ⟨y, far2, nf2, c, g1, g3, g4, g5, g6⟩ := grow0 hW hA d (.pl x r) ⟨x.len, nf, x.ks, x.body 0⟩ fr (max far fr) (by rw [hlen]; omega) hx' (.inr (by rw [hlen]; exact r5)) (by omega)
        refine ⟨y, far2, nf2, c + c2 + 5, g1, g3, by omega, g5, fun f l n hdn hWf => ?_⟩
        obtain ⟨n, rfl⟩ : ∃ n', n = n' + 1 := ⟨n - 1, by omega⟩
        have hst := top_plus (g := f + 6) (l := l + c + c2) (l2 := l + c) (p := 0) (e := x.len) (x := x) (y := ⟨x.len + 1 + r.len, fr, 1, r.tw 2 (x.len + 1)⟩) (by omega) (by omega) (by simp only [Xp.tw_len]; omega) r3 htop hk hn' (txt_hit h1) (r6 f (l + c) (f + 6 + 1) (by omega))
        unfold onTop at hst
        rw [growE, if_neg (by simp), show l + (c + c2 + 5) = l + c + c2 + 5 by omega, hst]
        simp only
        rw [if_neg (by omega)]
        have := g6 f l n (by omega) hWf
        rw [hlen, Xp.body_pl, Nat.zero_add] at this
        have hse : (seedH 1 0 x.len x).forest = x.tw 1 0 := by
          unfold seedH Xp.tw
          rw [Nat.zero_add]
        rw [hse]
        exact this
      · refine ⟨x, max far (max (max (-1) (max ((x.len + 1 : Nat) : Int) (-1))) (max (x.len : Int) (-1))), nf, 15, hx, (by omega), by omega, fun h => h2 h.2, fun f l n hdn hWf => ?_⟩
        · obtain ⟨n, rfl⟩ : ∃ n', n = n' + 1 := ⟨n - 1, by omega⟩
          have hst := top_stop2 (g := f + 6) (l := l) (p := 0) (e := x.len) (x := x) (by omega) (by omega) hk (txt_hit hA) hn' (txt_hit h1) (txt_miss h42) (call2_miss h2 hn f (l + 4) (f + 6 + 1))
          unfold onTop at hst
          rw [growE, if_neg (by simp), hst]
          simp only
          rw [if_pos (by omega)]
    · by_cases h3 : W[x.len]? = some 42
      · by_cases h2 : W[x.len + 1]? = some 97
        · have hlt : x.len + 1 < W.length := (List.getElem?_eq_some_iff.1 h2).1
          obtain ⟨d, rfl⟩ : ∃ d', d = d' + 1 := ⟨d - 1, by omega⟩
          have hnp2 : x.np = true := by
            rcases hnp with h | h
            · exact h
            · exact absurd ⟨h3, h2⟩ h
          have hx' : Xp.Ok W (.st x .a) 0 := ⟨hx, by rw [Nat.zero_add]; exact h3, by rw [Nat.zero_add]; exact h2, rfl, hnp2⟩
          have hlen : (Xp.st x .a).len = x.len + 1 + 1 := rfl
          obtain ⟨y, far2, nf2, c, g1, g3, g4, g5, g6⟩ := grow0 hW hA d (.st x .a) ⟨x.len, nf, x.ks, x.body 0⟩ (max (-1) (max (x.len : Int) (-1))) (max far (max (-1) (max (x.len : Int) (-1)))) (by rw [hlen]; omega) hx' (.inl (by simp [Xp.np, hnp2])) (by omega)
          refine ⟨y, far2, nf2, c + 20, g1, g3, by omega, g5, fun f l n hdn hWf => ?_⟩
          obtain ⟨n, rfl⟩ : ∃ n', n = n' + 1 := ⟨n - 1, by omega⟩
          have hst := top_star (g := f + 6) (l := l + c) (p := 0) (e := x.len) (x := x) (by omega) (by omega) htop hk hn' (txt_miss h1) (txt_hit h3) (call3_hit _ (f + 3) (l + c) (x.len + 1) (f + 6) hn h2)
          unfold onTop at hst
          rw [growE, if_neg (by simp), show l + (c + 20) = l + c + 20 by omega, hst]
          simp only
          rw [if_neg (by omega)]
          have := g6 f l n (by omega) hWf
          rw [hlen, Xp.body_st, Nat.zero_add] at this
          have hse : (seedH 2 0 x.len x).forest = x.tw 2 0 := by
            unfold seedH Xp.tw
            rw [Nat.zero_add]
          rw [hse]
          exact this
        · refine ⟨x, max far (max (max (-1) (max (x.len : Int) (-1))) (max ((x.len + 1 : Nat) : Int) (-1))), nf, 15, hx, (by omega), by omega, fun h => h2 h.2, fun f l n hdn hWf => ?_⟩
          · obtain ⟨n, rfl⟩ : ∃ n', n = n' + 1 := ⟨n - 1, by omega⟩
            have hst := top_stop3 (g := f + 6) (l := l) (p := 0) (e := x.len) (x := x) (by omega) (by omega) hk (txt_hit hA) hn' (txt_miss h1) (txt_hit h3) (call3_miss _ (f + 3) (l + 1) (x.len + 1) (f + 6 + 1) hn h2)
            unfold onTop at hst
            rw [growE, if_neg (by simp), hst]
            simp only
            rw [if_pos (by omega)]
      · refine ⟨x, max far (max (max (-1) (max (x.len : Int) (-1))) (max (x.len : Int) (-1))), nf, 8, hx, (by omega), by omega, fun h => by rcases h.1 with h | h; exact h1 h; exact h3 h, fun f l n hdn hWf => ?_⟩
        · obtain ⟨n, rfl⟩ : ∃ n', n = n' + 1 := ⟨n - 1, by omega⟩
          have hst := top_stop1 (g := f + 6) (l := l) (p := 0) (e := x.len) (x := x) (by omega) (by omega) hk (txt_hit hA) (txt_miss h1) (txt_miss h3)
          unfold onTop at hst
          rw [growE, if_neg (by simp), hst]
          simp only
          rw [if_pos (by omega)]
/-- the whole. -/
theorem levels_hit (hW : W.length ≤ 60) (hA : W[0]? = some 97) : ∃ (y : Xp) (far : Int) (l : Nat), Xp.Ok W y 0 ∧ Ends W y.len ∧ freshE (ev false lvR lvN W 4194304) false [] 0 0 0 0 4194305 ⟨4194304, false⟩ = some (.hit ⟨y.len, far, 1, y.tw 0 0⟩, ⟨l, false⟩) := by
  obtain ⟨y, far2, nf2, c, g1, g3, g4, g5, g6⟩ := grow0 (by omega) hA W.length .a ⟨1, -1, 0, []⟩ (-1) (-1) (by omega) hA (.inl rfl) (by omega)
  have hfit := Xp.ok_fits g1
  have hsz := Xp.sz_len y
  have hb := Xp.body_len y 0
  have hc : c + 6 ≤ 4194304 := by
    have : (W.length + 1) * 5000 ≤ 61 * 5000 := Nat.mul_le_mul_right _ (by omega)
    omega
  refine ⟨y, max nf2 far2, 4194304 - c - 6, g1, g5, ?_⟩
  unfold freshE
  have h0 := none_hit (W := W) ([] ++ [((0, ((0 : Nat) : Int)), none)]) (4194298 + 3) (4194298) 0 (lookup_push rfl _) hA
  rw [show 4194298 + 3 + 3 = 4194304 from rfl] at h0
  rw [h0]
  simp only
  have := g6 4194295 (4194304 - c - 6) 4194305 (by omega) (by omega)
  rw [show Xp.a.len = 1 from rfl, show Xp.a.ks = 0 from rfl, show Xp.a.body 0 = [] from rfl, show 4194304 - c - 6 + c = 4194298 by omega] at this
  rw [this]
  simp only
  rw [called_some (by simp only [Ht.tried]; omega)]
  simp only [Xp.tw, Nat.zero_add, Ht.tried]
theorem levels_miss (hA : W[0]? ≠ some 97) : freshE (ev false lvR lvN W 4194304) false [] 0 0 0 0 4194305 ⟨4194304, false⟩ = some (.miss 0, ⟨4194298, false⟩) := by
  unfold freshE
  have h0 := none_miss (W := W) ([] ++ [((0, ((0 : Nat) : Int)), none)]) (4194298 + 3) (4194298) 0 (lookup_push rfl _) hA
  rw [show 4194298 + 3 + 3 = 4194304 from rfl] at h0
  rw [h0]
  rfl
end
end Go.Proofs.YtkimkghldilliaaGreat
namespace Go.Proofs.YtkimkghldilliaaGreat
open Go.RowKit Go.Lib

/-- where a byte stands last, of so many from a place on. -/
def lastI (W : List UInt8) (c : UInt8) (fr : Nat) : Nat → Int
  | 0 => -1
  | n + 1 => if W[fr + n]? = some c then ((fr + n : Nat) : Int) else lastI W c fr n
theorem last_none {W : List UInt8} {c : UInt8} {fr : Nat} : ∀ n, (∀ j, j < n → W[fr + j]? ≠ some c) → lastI W c fr n = -1
  | 0, _ => rfl
  | n + 1, h => by
    unfold lastI
    rw [if_neg (h n (by omega)), last_none n (fun j hj => h j (by omega))]
theorem last_at {W : List UInt8} {c : UInt8} {fr m : Nat} (hm : W[fr + m]? = some c) : ∀ k, (∀ j, m < j → j < m + 1 + k → W[fr + j]? ≠ some c) → lastI W c fr (m + 1 + k) = ((fr + m : Nat) : Int)
  | 0, _ => by
    rw [Nat.add_zero, lastI, if_pos hm]
  | k + 1, h => by
    rw [show m + 1 + (k + 1) = m + 1 + k + 1 from rfl, lastI, if_neg (h (m + 1 + k) (by omega) (by omega)), last_at hm k (fun j h1 h2 => h j h1 (by omega))]
/-- a term that has a sign: where it is parted. -/
structure Parted (T : List Tw) (i q e m lv : Nat) (n2 : Nat) : Prop where
  kids : kidsR T i = [i + 1, n2]
  l1 : i + 1 < T.length
  l2 : n2 < T.length
  a1 : (atT T (i + 1)).lev = lv ∧ (atT T (i + 1)).fr = q ∧ (atT T (i + 1)).to = m
  a2 : (atT T n2).lev = ((lv + 1 : Nat) : Int) ∧ (atT T n2).fr = ((m + 1 : Nat) : Int) ∧ (atT T n2).to = e
  mid : q < m ∧ m + 1 < e
theorem tw_at {T post : List Tw} {x : Xp} {lev : Int} {p j : Nat} (hd : T.drop j = x.tw lev p ++ post) : j < T.length ∧ atT T j = ⟨0, lev, p, ((p + x.len : Nat) : Int), x.ks⟩ ∧ T.drop (j + 1) = x.body p ++ post := by
  have hj : j < T.length := by
    rcases Nat.lt_or_ge j T.length with h | h
    · exact h
    · rw [List.drop_eq_nil_of_le h] at hd
      simp [Xp.tw] at hd
  refine ⟨hj, ?_, ?_⟩
  · have h4 : (T.drop j)[0]? = T[j]? := by simp
    rw [hd] at h4
    simp only [Xp.tw, List.cons_append, List.getElem?_cons_zero] at h4
    simp [atT, ← h4]
  · rw [← List.drop_drop, hd]
    simp [Xp.tw]
theorem top_right {y : Xp} (hy : y.len ≤ 60) : RightP (y.tw 0 0) := by
  refine ⟨[0], ?_⟩
  have h := Xp.tw_for_of y (Xp.body_for y) (lev := 0) (p := 0) (j := 0) (T := y.tw 0 0) (post := []) (lo := 0) (hi := ((0 + y.len : Nat) : Int)) (a := 0) (e := 0 + 1 + y.sz) (rs := []) (by omega) (by simp) (Int.le_refl _) (Int.le_refl _) (Int.le_refl _) .nil
  have hl : (y.tw 0 0).length = 0 + 1 + y.sz := by rw [Xp.tw_len]; omega
  rw [hl]
  exact Xp.for_widen h (Int.le_refl _) (by omega) (Int.le_refl _)
/-- the kids of a twig that is a term's. -/
theorem kids_at {T post : List Tw} {x : Xp} {lev : Int} {p j : Nat} (hT : RightP T) (hl : 0 ≤ lev ∧ lev ≤ 99) (hd : T.drop j = x.tw lev p ++ post) : kidsR T j = x.rs (j + 1) := by
  obtain ⟨h1, h2, h3⟩ := tw_at hd
  have hs : Sub T j (j + 1 + x.sz) (x.rs (j + 1)) := by
    refine ⟨h1, ?_, ?_, ?_⟩
    · rw [h2]
      refine ⟨Int.le_refl _, hl.1, hl.2, by simp only; omega, by simp only; omega, by simp only; omega⟩
    · rw [h2, Xp.rs_len]
    · rw [h2]
      exact Xp.body_for x p (j + 1) T post h3
  have hr : hasR T j = true := by
    unfold hasR
    rw [(rightB_iff T).2 hT, Bool.and_true]
    exact decide_eq_true ⟨by omega, by omega⟩
  unfold kidsR
  rw [if_pos hr, Int.toNat_natCast]
  exact kidR_of hs
/-- a twig of the tree: a leaf, or parted at its last sign. -/
def NodeP (W : List UInt8) (T : List Tw) (i : Nat) : Prop := ∃ q e : Nat, (atT T i).rule = 0 ∧ 0 ≤ (atT T i).lev ∧ (atT T i).lev ≤ 99 ∧ 0 ≤ (atT T i).kids ∧ (atT T i).kids ≤ 2 ∧ (atT T i).fr = q ∧ (atT T i).to = e ∧ q < e ∧ e ≤ W.length ∧
  ((lastI W 43 q (e - q) = -1 ∧ lastI W 42 q (e - q) = -1 ∧ kidsR T i = [] ∧ e = q + 1) ∨
   (∃ m n2 : Nat, lastI W 43 q (e - q) = (m : Int) ∧ Parted T i q e m 1 n2) ∨
   (∃ m n2 : Nat, lastI W 43 q (e - q) = -1 ∧ lastI W 42 q (e - q) = (m : Int) ∧ Parted T i q e m 2 n2))
theorem node_p {W : List UInt8} {y : Xp} (hW : W.length ≤ 60) (hy : Xp.Ok W y 0) {i : Nat} (hi : i < (y.tw 0 0).length) : NodeP W (y.tw 0 0) i ∧ (atT (y.tw 0 0) i).to ≤ y.len := by
  have hlen : y.len ≤ 60 := by have := Xp.ok_fits hy; omega
  have hR := top_right hlen
  obtain ⟨z, v, q, post, h1, h2, h3, h4, h5⟩ := Xp.at_sub y 0 0 hy (by omega) i (by rw [Xp.tw_len] at hi; exact hi)
  obtain ⟨T, hT⟩ : ∃ T, T = y.tw 0 0 := ⟨_, rfl⟩
  rw [← hT] at h1 hR hi ⊢
  obtain ⟨g1, g2, g3⟩ := tw_at h1
  have hk := kids_at hR h5 h1
  have hfit := Xp.ok_fits h2
  have hpos := Xp.len_pos z
  unfold NodeP
  rw [g2]
  refine ⟨⟨q, q + z.len, rfl, h5.1, h5.2, by simp only; omega, ?_, rfl, rfl, by omega, hfit, ?_⟩, by simp only; omega⟩
  · cases z <;> simp [Xp.ks]
  · rw [show q + z.len - q = z.len by omega]
    cases z with
    | a =>
      left
      simp only [Xp.Ok] at h2
      refine ⟨?_, ?_, hk, rfl⟩
      · refine last_none 1 (fun j hj => ?_)
        have : j = 0 := by omega
        subst this
        rw [Nat.add_zero, h2]
        decide
      · refine last_none 1 (fun j hj => ?_)
        have : j = 0 := by omega
        subst this
        rw [Nat.add_zero, h2]
        decide
    | pl l r =>
      right; left
      obtain ⟨a1, a2, a3, a4⟩ := h2
      have hlp := Xp.len_pos l
      have hrp := Xp.len_pos r
      rw [Xp.body_pl, List.append_assoc] at g3
      obtain ⟨b1, b2, -⟩ := tw_at g3
      have g4 : T.drop (i + 1 + (l.sz + 1)) = r.tw 2 (q + l.len + 1) ++ post := by
        rw [← List.drop_drop, g3, ← Xp.tw_len l 1 q]
        simp
      obtain ⟨c1, c2, -⟩ := tw_at g4
      have hn2 : i + 1 + (l.sz + 1) = i + 1 + 1 + l.sz := by omega
      rw [hn2] at c1 c2
      refine ⟨q + l.len, i + 1 + 1 + l.sz, ?_, ⟨hk, b1, c1, by rw [b2]; exact ⟨rfl, rfl, rfl⟩, ?_, by simp only [Xp.len]; omega⟩⟩
      · have := last_at (W := W) (c := 43) (fr := q) (m := l.len) a2 r.len (fun j j1 j2 => by
          have := Xp.ok_np a3 a4 (j - l.len - 1) (by omega)
          rw [show q + l.len + 1 + (j - l.len - 1) = q + j by omega] at this
          exact this)
        exact this
      · rw [c2]
        refine ⟨rfl, rfl, ?_⟩
        simp only [Xp.len]
        omega
    | st l r =>
      right; right
      have hnp : (Xp.st l r).np = true := by
        obtain ⟨-, -, -, a4, a5⟩ := h2
        subst a4
        simp [Xp.np, a5]
      have hno := Xp.ok_np h2 hnp
      obtain ⟨a1, a2, a3, a4, a5⟩ := h2
      have hlp := Xp.len_pos l
      rw [Xp.body_st, List.append_assoc] at g3
      obtain ⟨b1, b2, -⟩ := tw_at g3
      have g4 : T.drop (i + 1 + (l.sz + 1)) = r.tw 3 (q + l.len + 1) ++ post := by
        rw [← List.drop_drop, g3, ← Xp.tw_len l 2 q]
        simp
      obtain ⟨c1, c2, -⟩ := tw_at g4
      have hn2 : i + 1 + (l.sz + 1) = i + 1 + 1 + l.sz := by omega
      rw [hn2] at c1 c2
      have hrp := Xp.len_pos r
      refine ⟨q + l.len, i + 1 + 1 + l.sz, last_none _ hno, ?_, ⟨hk, b1, c1, by rw [b2]; exact ⟨rfl, rfl, rfl⟩, ?_, by simp only [Xp.len]; omega⟩⟩
      · subst a4
        have := last_at (W := W) (c := 42) (fr := q) (m := l.len) a2 1 (fun j j1 j2 => by
          have e : j = l.len + 1 := by omega
          subst e
          simp only [Xp.Ok] at a3
          rw [← Nat.add_assoc, a3]
          decide)
        exact this
      · rw [c2]
        refine ⟨rfl, rfl, ?_⟩
        simp only [Xp.len]
        omega
/-- the tree's twigs are small. -/
theorem tree_small {W : List UInt8} {y : Xp} (hW : W.length ≤ 60) (hy : Xp.Ok W y 0) : ∀ t ∈ y.tw 0 0, twS t := by
  intro t ht
  obtain ⟨i, hi, rfl⟩ := List.mem_iff_getElem.1 ht
  obtain ⟨⟨q, e, h1, h2, h3, h4, h5, h6, h7, h8, h9, -⟩, -⟩ := node_p hW hy hi
  rw [atT_get _ hi] at h1 h2 h3 h4 h5 h6 h7
  exact ⟨by omega, by omega, by omega, by omega, by omega, by omega, by omega, by omega, by omega⟩
end Go.Proofs.YtkimkghldilliaaGreat
