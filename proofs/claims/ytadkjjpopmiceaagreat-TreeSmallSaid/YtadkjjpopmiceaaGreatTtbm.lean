import Derived.Test.YtadkjjpopmiceaaGreatApim
import Derived.Test.YtadkjjpopmiceaaGreatFltm
import Derived.Test.YtadkjjpopmiceaaGreatRfpm
namespace Go.Proofs.YtadkjjpopmiceaaGreat
open Go.RowKit Go.Lib

theorem nats_inc (l : List Nat) : (l.map fun i : Nat => (i : Int)).flatMap inc = nats l := by
  induction l with
  | nil => rfl
  | cons a l ih =>
    rw [List.map_cons, List.flatMap_cons, ih]
    rfl
theorem three_fs {K : List (Nat × Obj)} {B g : Nat} {w : World} {a b d : Value} {la lb ld : List Nat} (hg : w.heap[g]? = some (.cells #[a, b, d] 27 (0, 0))) (hgB : B ≤ g) (hB : B ≤ w.heap.size) (ha : OwnN B w a la) (hb : OwnN B w b lb) (hd : OwnN B w d ld)
    (ab : ∀ k, a.ownBlock = some k → b.ownBlock ≠ some k) (ad : ∀ k, a.ownBlock = some k → d.ownBlock ≠ some k) (bd : ∀ k, b.ownBlock = some k → d.ownBlock ≠ some k)
    (hk : ∀ q ∈ K, w.heap[q.1]? = some q.2 ∧ g ≠ q.1 ∧ a.ownBlock ≠ some q.1 ∧ b.ownBlock ≠ some q.1 ∧ d.ownBlock ≠ some q.1) :
    FsI K B w (.slice (some ⟨g, 0, none⟩) 3 3) [a, b, d] 3 (fun j => ([la, lb, ld].getD j []).length) (fun j => ([la, lb, ld].getD j []).map fun i : Nat => (i : Int)) := by
  refine ⟨own_shut rfl hgB hg (Nat.le_refl _) (by unfold maxLen; omega) rfl rfl, rfl, fun j hj => ?_, fun i j hi hj hij k hk1 hk2 => ?_, hB, fun q hq => ?_⟩
  · unfold RowI
    rw [nats_inc]
    match j, hj with
    | 0, _ => exact ha
    | 1, _ => exact hb
    | 2, _ => exact hd
  · match i, j, hi, hj with
    | 0, 0, _, _ => exact hij rfl
    | 1, 1, _, _ => exact hij rfl
    | 2, 2, _, _ => exact hij rfl
    | 0, 1, _, _ => exact ab k hk1 hk2
    | 0, 2, _, _ => exact ad k hk1 hk2
    | 1, 2, _, _ => exact bd k hk1 hk2
    | 1, 0, _, _ => exact ab k hk2 hk1
    | 2, 0, _, _ => exact ad k hk2 hk1
    | 2, 1, _, _ => exact bd k hk2 hk1
  · obtain ⟨h1, h2, h3, h4, h5⟩ := hk q hq
    refine ⟨h1, fun e => h2 (by simpa [Value.ownBlock] using e), fun j hj => ?_⟩
    match j, hj with
    | 0, _ => exact h3
    | 1, _ => exact h4
    | 2, _ => exact h5
theorem topR_le (l : List Tw) : (topR l).length ≤ l.length := by
  by_cases h : rightB l = true
  · exact topR_len h
  · unfold topR
    rw [if_neg h]
    simp
theorem pathR_le (l : List Tw) (pl : Int) : (pathR l pl).length ≤ l.length := by
  unfold pathR
  split
  · exact onP_len l pl l.length
  · simp
theorem kidsR_le (l : List Tw) (n : Int) : (kidsR l n).length ≤ l.length := by
  by_cases h : hasR l n = true
  · obtain ⟨k, rfl, hk, hr⟩ := hasR_at h
    obtain ⟨m, ks, hs⟩ := ((rightB_iff l).1 hr).sub hk
    unfold kidsR
    rw [if_pos h, Int.toNat_natCast, kidR_of hs]
    have hm := hs.lt
    obtain ⟨h1, h2, h3, h4⟩ := hs
    have := h4.len_le
    omega
  · unfold kidsR
    rw [if_neg h]
    simp
/-- what the kit's ApartTwigs tells. -/
def ApartT : Prop := ∀ {K : List (Nat × Obj)} {B m : Nat} {V : Value} {vs : List Value} {nn : Nat → Nat} {F0 : Nat → List Tw} (w : World), Fs K B w V vs m nn F0 → m ≤ 3 → (∀ j, j < m → nn j ≤ 1000000) →
    Calls Tryz.prog 29 #[V] w fun e w' => e = .returned (.bool true) ∧ Below B w w' ∧ Hid (∀ q ∈ K, w'.heap[q.1]? = some q.2)
theorem lent_row {B g len : Nat} {w : World} {l : List Tw} (h : TLentAt w g l) (hg : B ≤ g) (hlen : len = l.length) (hl : l.length ≤ 1000000) : Row B w (.slice (some ⟨g, 0, none⟩) len (len + 12)) l.length l := by
  subst hlen
  have hs : (tvs (tmk l 12)).length = (l.length + 12) * 5 := by rw [flat_len twc_len, tmk_len]
  refine own_shut (by rw [flat_len twc_len]) hg h (by omega) (by unfold maxLen; omega) (by simpa using hs) ?_
  show (tvs (tmk l 12)).take (l.length * 5) = _
  rw [flat_takeC twc_len]
  unfold tmk
  rw [List.take_left']
  rfl
theorem two_fs {B g2 g len : Nat} {w : World} {c : Value} {l lc : List Tw} (hg2 : w.heap[g2]? = some (.cells #[c, .slice (some ⟨g, 0, none⟩) len (len + 12)] 22 (0, 0))) (hB2 : B ≤ g2) (hBw : B ≤ w.heap.size) (hc : TwOwn B w c lc) (hin : TLentAt w g l) (hgB : B ≤ g)
    (hcg : c.ownBlock ≠ some g) (hlen : len = l.length) (hl : l.length ≤ 1000000) :
    Fs [] B w (.slice (some ⟨g2, 0, none⟩) 2 2) [c, .slice (some ⟨g, 0, none⟩) len (len + 12)] 2 (fun j => ([lc, l].getD j []).length) (fun j => [lc, l].getD j []) := by
  refine ⟨own_shut rfl hB2 hg2 (Nat.le_refl _) (by unfold maxLen; omega) rfl rfl, rfl, fun j hj => ?_, fun i j hi hj hij k hk1 hk2 => ?_, hBw, fun q hq => by simp at hq⟩
  · match j, hj with
    | 0, _ => exact hc
    | 1, _ => exact lent_row hin hgB hlen hl
  · match i, j, hi, hj with
    | 0, 0, _, _ => exact hij rfl
    | 1, 1, _, _ => exact hij rfl
    | 0, 1, _, _ =>
      have hk1 : c.ownBlock = some k := hk1
      have hk2 : some g = some k := hk2
      rw [← hk2] at hk1
      exact hcg hk1
    | 1, 0, _, _ =>
      have hk1 : some g = some k := hk1
      have hk2 : c.ownBlock = some k := hk2
      rw [← hk1] at hk2
      exact hcg hk2
/-- the block of a row, watched. -/
theorem own_watch {w : World} {B C n : Nat} {e : TypeId} {v : Value} {xs : List Value} (h : w.ownsRow B e C v n xs) :
    ∃ KC : List (Nat × Obj), (∀ q ∈ KC, w.heap[q.1]? = some q.2 ∧ v.ownBlock = some q.1 ∧ ∃ cur, q.2 = .cells cur e (0, 0)) ∧ ∀ w' : World, (∀ q ∈ KC, w'.heap[q.1]? = some q.2) → w'.ownsRow B e C v n xs := by
  rcases h.2 with ⟨h1, h2⟩ | ⟨g, cap, cur, rfl, h2, h3, h4, h5, h6, h7⟩
  · exact ⟨[], fun q hq => by simp at hq, fun w' _ => ⟨h.1, .inl ⟨h1, h2⟩⟩⟩
  · refine ⟨[(g, .cells cur e (0, 0))], fun q hq => ?_, fun w' hw => ⟨h.1, .inr ⟨g, cap, cur, rfl, h2, hw _ (List.mem_singleton.2 rfl), h4, h5, h6, h7⟩⟩⟩
    obtain rfl := List.mem_singleton.1 hq
    exact ⟨h3, rfl, cur, rfl⟩
end Go.Proofs.YtadkjjpopmiceaaGreat
