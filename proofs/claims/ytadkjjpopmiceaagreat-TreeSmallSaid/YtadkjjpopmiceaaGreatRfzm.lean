import Derived.Test.YtadkjjpopmiceaaGreatRfym
import Derived.Test.YtadkjjpopmiceaaGreatTbcm
namespace Go.Proofs.YtadkjjpopmiceaaGreat
open Go.RowKit Go.Lib

/-- the document's builder in memory. -/
structure DoB (B : Nat) (w : World) (rb : Nat) (v : Value) (l : List Tw) (most peak : Nat) : Prop where
  blk : w.heap[rb]? = some (.cells #[v, .int .i64 most, .int .i64 peak] 101 (0, 0))
  own : TwOwn B w v l
  ok : ∀ t ∈ l, twOk t
  len : l.length ≤ 100000
  pk : l.length ≤ peak
  bb : B ≤ rb
  bw : B ≤ w.heap.size
theorem DoB.later {B : Nat} {w w' : World} {rb : Nat} {v : Value} {l : List Tw} {most peak : Nat} (h : DoB B w rb v l most peak) (hb : Below w.heap.size w w') : DoB B w' rb v l most peak :=
  ⟨(hb.block _ (lt_of_block h.blk)).trans h.blk, h.own.later hb, h.ok, h.len, h.pk, h.bb, Nat.le_trans h.bw hb.size⟩
theorem DoB.row {B : Nat} {w : World} {rb : Nat} {v : Value} {l : List Tw} {most peak : Nat} (h : DoB B w rb v l most peak) : TwRow w v l := TwRow.own h.own h.ok (Nat.le_trans h.len (by omega))
theorem three_box {w : World} {b : Nat} {x0 x1 x2 : Value} {t : TypeId} (h : w.heap[b]? = some (.cells #[x0, x1, x2] t (0, 0))) : w.cell? ⟨b, 0, none⟩ = some x0 ∧ w.cell? ⟨b, 1, none⟩ = some x1 ∧ w.cell? ⟨b, 2, none⟩ = some x2 := ⟨(block_cell' h 0).1, (block_cell' h 1).1, (block_cell' h 2).1⟩
theorem three_free {w : World} {b : Nat} {x0 x1 x2 : Value} {t : TypeId} (h : w.heap[b]? = some (.cells #[x0, x1, x2] t (0, 0))) : w.frozen? ⟨b, 0, none⟩ = false ∧ w.frozen? ⟨b, 1, none⟩ = false ∧ w.frozen? ⟨b, 2, none⟩ = false := ⟨(block_cell' h 0).2, (block_cell' h 1).2, (block_cell' h 2).2⟩
/-- what a call of it leaves. -/
def DoN (B : Nat) (w : World) (rb : Nat) (v : Value) (l : List Tw) (most peak : Nat) (w' : World) : Prop :=
  ∃ v', DoB B w' rb v' l most peak ∧ Keeps (fun k => k = rb) w w' ∧ (∀ k, v'.ownBlock = some k → v.ownBlock = some k ∨ w.heap.size ≤ k)
theorem DoN.self {B : Nat} {w w' : World} {rb : Nat} {v : Value} {l : List Tw} {most peak : Nat} (h : DoB B w rb v l most peak) (hb : Below w.heap.size w w') : DoN B w rb v l most peak w' :=
  ⟨v, h.later hb, Keeps.ofNew hb _, fun _ hk => .inl hk⟩
theorem DoN.before {B : Nat} {w w1 w' : World} {rb : Nat} {v : Value} {l : List Tw} {most peak : Nat} (h : DoN B w1 rb v l most peak w') (hb : Below w.heap.size w w1) : DoN B w rb v l most peak w' := by
  obtain ⟨v', h1, h2, h3⟩ := h
  exact ⟨v', h1, (Keeps.ofNew hb _).trans h2, fun k hk => (h3 k hk).imp id fun h => Nat.le_trans hb.size h⟩
set_option maxHeartbeats 2000000 in
theorem rMark_any {B rb : Nat} {v : Value} {l : List Tw} {most peak : Nat} (n : Int) (w : World) (h : DoB B w rb v l most peak) :
    Calls Tryz.prog 104 #[.pointer (some ⟨rb, 0, none⟩), .int .i64 n] w fun e w' => e = .returned (.bool (isMark l n)) ∧ Below w.heap.size w w' := by
  have H := Lib.hid h
  have HT := Lib.hid (rTop_any v l w h.row)
  obtain ⟨c0, -, -⟩ := three_box h.blk
  have hown := h.own
  unfold TwOwn at hown
  obtain ⟨va, vc, rfl⟩ := own_val hown
  obtain ⟨len, hlen⟩ : ∃ len, len = l.length := ⟨_, rfl⟩
  have HLe := Lib.hid hlen
  rw [← hlen] at H HT c0 
  clear h hown hlen
  go_enter Tryz.func104, Tryz.ntmps104
  go_wp2_with fail
  refine HT.out.mono ?_
  rintro e w1 ⟨vT, rfl, ho, hb⟩
  have HB1 := Lib.hid hb
  have hnm := ho.nm
  obtain ⟨ka, kc, rfl, hk1, hk2⟩ := hnm.val
  obtain ⟨rn, hrn⟩ : ∃ rn, rn = (topR l).length := ⟨_, rfl⟩
  have HRn := Lib.hid hrn
  rw [← hrn] at hnm hk1 ⊢
  have hrn2 : rn ≤ 9223372036854775807 := by unfold maxLen at hk2; omega
  have HN := Lib.hid hnm
  clear ho hb hnm hrn hk1 hk2 HT c0
  have c0 := (three_box (H.out.later HB1.out).blk).1
  clear c0
  go_wp2
  go_loopw [6] (fun i wr => ∃ k : Nat, k ≤ rn ∧ i = .int .i64 k ∧ Below w1.heap.size w1 wr ∧ Hid (∀ m (hm : m < (topR l).length), m < k → ((topR l)[m] : Int) ≠ n)) (fun i _ => rn - (intOf i).toNat)
  case atStart => exact ⟨0, by omega, rfl, Below.refl _ _, Lib.hid (fun m hm h0 => absurd h0 (by omega))⟩
  case round =>
    obtain ⟨k, hk, rfl, hbel, HI⟩ := hrel
    have HB2 := Lib.hid (HB1.out.trans (hbel.mono HB1.out.size))
    by_cases hlt : k < rn
    · have hlt' : (k : Int) < rn := by omega
      have hkR : k < (topR l).length := by rw [← HRn.out]; exact hlt
      obtain ⟨kb, ko, rfl, hkb, k0⟩ := (HN.out.later hbel).cells (i := k) hkR
      have hmem : (topR l)[k] ∈ topR l := List.getElem_mem _
      obtain ⟨r, hr⟩ : ∃ r, r = (topR l)[k] := ⟨_, rfl⟩
      rw [← hr] at k0 hmem
      have HRe := Lib.hid hr
      have HMe := Lib.hid hmem
      clear hr hmem
      by_cases hq : (r : Int) = n
      · have HT2 := Lib.hid (show isMark l n = true from by
          simp only [isMark, anyN, Bool.or_eq_true, List.any_eq_true]
          exact .inr ⟨r, HMe.out, by simp [hq]⟩)
        subst hq
        go_wp2
        go_ret
        exact ⟨ret_bool HT2.out.symm, HB2.out⟩
      · have HQ := Lib.hid hq
        have HBk := Lib.hid hbel
        clear hbel
        go_wp2
        go_roundw
        case rel => exact ⟨k + 1, by omega, by go_num, HBk.out, Lib.hid (fun m hm hmk => by
          by_cases hmk2 : m = k
          · subst hmk2; rw [← HRe.out]; exact HQ.out
          · exact HI.out m hm (by omega))⟩
        case measure => simp [intOf]; omega
    · have hlt' : ¬ (k : Int) < rn := by omega
      have HNo := Lib.hid (show anyN (topR l) n = false from by
        simp only [anyN, List.any_eq_false]
        intro x hx
        obtain ⟨m, hm, rfl⟩ := List.getElem_of_mem hx
        have := HI.out m hm (by have := HRn.out; omega)
        simpa using this)
      obtain ⟨c0, -, -⟩ := three_box (H.out.later HB2.out).blk
      by_cases hq : n = (len : Int)
      · have HT2 := Lib.hid (show isMark l n = true from by simp [isMark, hq, HLe.out])
        subst hq
        go_wp2
        go_ret
        exact ⟨ret_bool HT2.out.symm, HB2.out⟩
      · have HT2 := Lib.hid (show isMark l n = false from by
          unfold isMark
          rw [HNo.out, ← HLe.out, Bool.or_false]
          simpa using hq)
        go_wp2
        go_ret
        exact ⟨ret_bool (by rw [HT2.out]; simpa using hq), HB2.out⟩
theorem set_fin {B rb : Nat} {v v2 : Value} {l l2 : List Tw} {most peak : Nat} {w : World} (h : DoB B w rb v l most peak) (h2 : TwOwn B w v2 l2) (hok : ∀ t ∈ l2, twOk t) (hl : l2.length ≤ 100000) (p : Nat) (hp : p = max peak l2.length) :
    DoB B ((w.setCell ⟨rb, 0, none⟩ v2).setCell ⟨rb, 2, none⟩ (.int .i64 p)) rb v2 l2 most p ∧ Keeps (fun k => k = rb) w ((w.setCell ⟨rb, 0, none⟩ v2).setCell ⟨rb, 2, none⟩ (.int .i64 p)) := by
  have hk : Keeps (fun k => k = rb) w ((w.setCell ⟨rb, 0, none⟩ v2).setCell ⟨rb, 2, none⟩ (.int .i64 p)) := ((Keeps.refl (fun k => k = rb) w).setCell (p := ⟨rb, 0, none⟩) rfl _).setCell (p := ⟨rb, 2, none⟩) rfl _
  refine ⟨⟨block_setCell' (block_setCell' h.blk), ?_, hok, hl, by omega, h.bb, Nat.le_trans h.bw hk.size⟩, hk⟩
  unfold TwOwn at h2 ⊢
  refine hk.row h2 (fun k hk0 e => ?_)
  subst e
  exact own_ne' h.blk (by decide) h2 hk0
/-- set: a row of its own. -/
theorem rSet_any {B rb : Nat} {v v2 : Value} {l l2 : List Tw} {most peak : Nat} (w : World) (h : DoB B w rb v l most peak) (h2 : TwOwn B w v2 l2) (hok : ∀ t ∈ l2, twOk t) (hl : l2.length ≤ 100000) :
    Calls Tryz.prog 103 #[.pointer (some ⟨rb, 0, none⟩), v2] w fun e w' => e = .returned (.int .i64 (if l2.length ≤ most then 0 else 12)) ∧
      ∃ v', DoB B w' rb v' (if l2.length ≤ most then l2 else l) most (max peak (if l2.length ≤ most then l2 else l).length) ∧ Keeps (fun k => k = rb) w w' ∧ (∀ k, v'.ownBlock = some k → v.ownBlock = some k ∨ v2.ownBlock = some k) := by
  have H := Lib.hid h
  obtain ⟨c0, c1, c2⟩ := three_box h.blk
  obtain ⟨f0, f1, f2⟩ := three_free h.blk
  have hown := h2
  unfold TwOwn at hown
  obtain ⟨va, vc, rfl⟩ := own_val hown
  have HF := Lib.hid (fun p hp => set_fin h h2 hok hl p hp)
  obtain ⟨n, hn⟩ : ∃ n, n = l2.length := ⟨_, rfl⟩
  have HN := Lib.hid hn
  rw [← hn] at hl HF ⊢
  clear h h2 hown hok hn
  by_cases hm : n ≤ most
  · have hm' : ¬ (most : Int) < n := by omega
    simp only [if_pos hm]
    obtain ⟨w1, hw1⟩ : ∃ w1, w1 = w.setCell ⟨rb, 0, none⟩ (.slice va n vc) := ⟨_, rfl⟩
    have hb1 : w1.heap[rb]? = some (.cells #[.slice va n vc, .int .i64 most, .int .i64 peak] 101 (0, 0)) := by rw [hw1]; exact block_setCell' H.out.blk
    have HW1 := Lib.hid hw1
    rw [← hw1] at HF
    have HB1 := Lib.hid hb1
    clear hb1 
    by_cases hp : peak < n
    · have hp1 : max peak n = n := by omega
      have hp' : (peak : Int) < n := by omega
      have HF2 := Lib.hid (HF.out n (by omega))
      have HP1 := Lib.hid hp1
      clear hp1
      go_enter Tryz.func103, Tryz.ntmps103
      go_upto_region 4 with (fail)
      rw [← hw1]
      clear c0 c1 c2 f0 f1 f2 hw1
      obtain ⟨c0, c1, c2⟩ := three_box HB1.out
      obtain ⟨f0, f1, f2⟩ := three_free HB1.out
      go_wp2
      go_ret
      rw [← HN.out, HP1.out]
      exact ⟨rfl, _, HF2.out.1, HF2.out.2, fun k hk => .inr hk⟩
    · have hp1 : max peak n = peak := by omega
      have hp' : ¬ (peak : Int) < n := by omega
      have HF2 := Lib.hid (HF.out peak (by omega))
      have HP1 := Lib.hid hp1
      clear hp1
      go_enter Tryz.func103, Tryz.ntmps103
      go_upto_region 4 with (fail)
      rw [← hw1]
      clear c0 c1 c2 f0 f1 f2 hw1
      obtain ⟨c0, c1, c2⟩ := three_box HB1.out
      obtain ⟨f0, f1, f2⟩ := three_free HB1.out
      go_wp2
      go_ret
      rw [← HN.out, HP1.out]
      exact ⟨rfl, _, HF2.out.1, HF2.out.2, fun k hk => .inr hk⟩
  · have hm' : (most : Int) < n := by omega
    simp only [if_neg hm]
    have HPk := Lib.hid (show max peak l.length = peak from by have := H.out.pk; omega)
    go_enter Tryz.func103, Tryz.ntmps103
    go_wp2
    go_ret
    rw [HPk.out]
    exact ⟨rfl, v, H.out, Keeps.refl _ _, fun k hk => .inl hk⟩
/-- set, behind new memory. -/
theorem set_new {B rb : Nat} {v : Value} {most : Nat} {w w1 w' : World} {v2 : Value} {l' : List Tw} {pk : Nat} (hb : Below w.heap.size w w1) (h2 : ∀ k, v2.ownBlock = some k → w.heap.size ≤ k)
    (h : ∃ v', DoB B w' rb v' l' most pk ∧ Keeps (fun k => k = rb) w1 w' ∧ (∀ k, v'.ownBlock = some k → v.ownBlock = some k ∨ v2.ownBlock = some k)) : DoN B w rb v l' most pk w' := by
  obtain ⟨v', h3, h4, h5⟩ := h
  exact ⟨v', h3, (Keeps.ofNew hb _).trans h4, fun k hk => (h5 k hk).imp id (h2 k)⟩
theorem empty_tw {w : World} {B g : Nat} (h : w.heap[g]? = some (.cells #[] 45 (0, 0))) (hb : B ≤ g) : w.ownsRow B 45 5 (.slice (some ⟨g, 0, none⟩) 0 0) 0 [] :=
  own_shut rfl hb h (Nat.le_refl _) (Nat.zero_le _) rfl rfl
set_option maxRecDepth 100000 in
set_option maxHeartbeats 4000000 in
theorem rPut_any {B rb : Nat} {v vl : Value} {l l2 : List Tw} {most peak : Nat} (w : World) (h : DoB B w rb v l most peak) (h2 : TwRow w vl l2) (hl : l.length + l2.length ≤ 100000) :
    Calls Tryz.prog 67 #[.pointer (some ⟨rb, 0, none⟩), vl] w fun e w' => e = .returned (.int .i64 (bPut most l l2).1) ∧ DoN B w rb v (bPut most l l2).2 most (max peak (bPut most l l2).2.length) w' := by
  have H := Lib.hid h
  have H2 := Lib.hid h2
  obtain ⟨c0, -, -⟩ := three_box h.blk
  have hrb := lt_of_block h.blk
  have hown := h.own
  unfold TwOwn at hown
  obtain ⟨va, vc, rfl⟩ := own_val hown
  obtain ⟨xo, xc, rfl⟩ := h2.at'.val
  obtain ⟨n, hn⟩ : ∃ n, n = l.length := ⟨_, rfl⟩
  obtain ⟨n2, hn2⟩ : ∃ n2, n2 = l2.length := ⟨_, rfl⟩
  have HN := Lib.hid hn
  have HN2 := Lib.hid hn2
  rw [← hn] at c0 hl H ⊢
  rw [← hn2] at hl H2 ⊢
  have HPk := Lib.hid (show max peak l.length = peak from by have := H.out.pk; omega)
  obtain ⟨i0, hi0, hz0, hz1, hz2⟩ := info_parts Tryz.infoTwig
  clear h h2 hown hn hn2
  go_enter Tryz.func67, Tryz.ntmps67
  have hal := (Below.refl w.heap.size w).alloc (Nat.le_refl _) (.cells #[] 45 (0, 0))
  have HRw := Lib.hid (rows_news twc_len (by omega) (H.out.row.at'.later hal))
  have HBa := Lib.hid hal
  have hc0 := (three_box (H.out.later hal).blk).1
  clear hal
  go_wp2_with (at_builtin; first
    | (refine wpList_append_tu rfl (.tmp 6) (.tmp 10) 22 22 rfl w.heap.size 45 45 i0 _ 5 40 Tryz.underlying22 Tryz.underlying22 hi0 hz0 hz1 hz2 rfl (by decide) (some ⟨w.heap.size, 0, none⟩) 0 0 [] rfl (empty_tw (heap_alloc_new w _) (Nat.le_refl _)) va n vc (tvs l) rfl (fun h => (HRw.out.2.2.2.1 h).1) (by rw [flat_len twc_len, HN.out]) HRw.out.2.2.2.2 (flat_one twc_one l) (by unfold maxLen; omega) (by omega) HBa.out.size ?_; intro v3 w3 hown3 hgrow3; simp only [Nat.zero_add, List.nil_append] at hown3; obtain ⟨a3, p3, rfl⟩ := own_val hown3; have HO3 := Lib.hid hown3; have HB3 := Lib.hid (HBa.out.grown hgrow3 HBa.out.size (fun k hk => by cases hk; exact Nat.le_refl _)); have HRw2 := Lib.hid (rows_news twc_len (by omega) (H2.out.later HB3.out).at'); clear hown3 hgrow3)
    | (refine wpList_append_tu rfl (.tmp 11) (.tmp 12) 22 22 rfl w.heap.size 45 45 i0 _ 5 40 Tryz.underlying22 Tryz.underlying22 hi0 hz0 hz1 hz2 rfl (by decide) a3 n p3 (tvs l) rfl HO3.out xo n2 xc (tvs l2) rfl (fun h => (HRw2.out.2.2.2.1 h).1) (by rw [flat_len twc_len, HN2.out]) HRw2.out.2.2.2.2 (flat_one twc_one l2) (by unfold maxLen; omega) (by omega) HB3.out.size ?_; intro v4 w4 hown4 hgrow4; obtain ⟨a4, p4, rfl⟩ := own_val hown4; have HB4 := Lib.hid (HB3.out.grown hgrow4 HB3.out.size (fun k hk => (HO3.out.lt k hk).1)); have HO4 := Lib.hid hown4; clear hown4 hgrow4))
  have HO4' := Lib.hid (show TwOwn w.heap.size w4 (.slice a4 (n + n2) p4) (l ++ l2) from by
    have := HO4.out
    unfold TwOwn
    rw [List.length_append, ← HN.out, ← HN2.out, tvs, List.flatMap_append]
    exact this)
  have HRi2 := Lib.hid (rRight_any _ l2 w4 (H2.out.later HB4.out))
  cases h2 : rightB l2 with
  | false =>
    rw [h2] at HRi2
    have HP := Lib.hid (show bPut most l l2 = (4, l) from by unfold bPut; rw [h2]; rfl)
    clear h2
    refine HRi2.out.mono ?_
    rintro e w5 ⟨rfl, hb⟩
    go_wp2
    go_ret
    rw [HP.out]
    simp only
    rw [HPk.out]
    exact ⟨rfl, DoN.self H.out (HB4.out.trans (hb.mono HB4.out.size))⟩
  | true =>
    rw [h2] at HRi2
    have HY2 := Lib.hid h2
    clear h2
    refine HRi2.out.mono ?_
    rintro e w5 ⟨rfl, hb⟩
    have HB5 := Lib.hid (HB4.out.trans (hb.mono HB4.out.size))
    have HO5 := Lib.hid (HO4'.out.later hb)
    have HT5 := Lib.hid (TwRow.own HO5.out (fun t ht => (List.mem_append.1 ht).elim (H.out.ok t) (H2.out.ok t)) (by rw [List.length_append, ← HN.out, ← HN2.out]; omega))
    have HRi := Lib.hid (rRight_any _ (l ++ l2) w5 HT5.out)
    clear hb HRi2
    cases hr : rightB (l ++ l2) with
    | false =>
      rw [hr] at HRi
      have HP := Lib.hid (show bPut most l l2 = (2, l) from by unfold bPut; rw [HY2.out, hr]; rfl)
      clear hr
      go_wp2_with fail
      refine HRi.out.mono ?_
      rintro e w6 ⟨rfl, hb⟩
      go_wp2
      go_ret
      rw [HP.out]
      simp only
      rw [HPk.out]
      exact ⟨rfl, DoN.self H.out (HB5.out.trans (hb.mono HB5.out.size))⟩
    | true =>
      rw [hr] at HRi
      have HP := Lib.hid (show bPut most l l2 = ((if (l ++ l2).length ≤ most then 0 else 12), (if (l ++ l2).length ≤ most then l ++ l2 else l)) from by
        unfold bPut
        rw [HY2.out, hr, if_pos rfl, if_pos rfl, List.length_append]
        split <;> rfl)
      clear hr
      go_wp2_with fail
      refine HRi.out.mono ?_
      rintro e w6 ⟨rfl, hb⟩
      have HB6 := Lib.hid (HB5.out.trans (hb.mono HB5.out.size))
      have HO6 := Lib.hid (HO5.out.later hb)
      have HSt := Lib.hid (rSet_any w6 (H.out.later HB6.out) (show TwOwn B w6 _ _ from ownsRow_base HO6.out H.out.bw) HT5.out.ok (by rw [List.length_append, ← HN.out, ← HN2.out]; exact hl))
      have HFr := Lib.hid (fun k hk => (HO6.out.lt k hk).1)
      obtain ⟨c, hc⟩ : ∃ c : Int, c = if (l ++ l2).length ≤ most then 0 else 12 := ⟨_, rfl⟩
      rw [← hc] at HSt HP
      clear hb HRi HO3 HO4 HO4' hc
      go_wp2_with fail
      refine HSt.out.mono ?_
      rintro e w7 ⟨rfl, hh⟩
      have HH := Lib.hid hh
      clear hh HSt
      go_wp2
      go_ret
      rw [HP.out]
      exact ⟨rfl, set_new HB6.out HFr.out HH.out⟩
theorem back_fin {B rb : Nat} {v v2 : Value} {l l2 : List Tw} {most peak : Nat} {w : World} (h : DoB B w rb v l most peak) (h2 : TwOwn B w v2 l2) (hok : ∀ t ∈ l2, twOk t) (hl : l2.length ≤ l.length) :
    DoB B (w.setCell ⟨rb, 0, none⟩ v2) rb v2 l2 most peak ∧ Keeps (fun k => k = rb) w (w.setCell ⟨rb, 0, none⟩ v2) := by
  have hk : Keeps (fun k => k = rb) w (w.setCell ⟨rb, 0, none⟩ v2) := (Keeps.refl (fun k => k = rb) w).setCell (p := ⟨rb, 0, none⟩) rfl _
  refine ⟨⟨block_setCell' h.blk, ?_, hok, Nat.le_trans hl h.len, Nat.le_trans hl h.pk, h.bb, Nat.le_trans h.bw hk.size⟩, hk⟩
  unfold TwOwn at h2 ⊢
  refine hk.row h2 (fun k hk0 e => ?_)
  subst e
  exact own_ne' h.blk (by decide) h2 hk0
theorem own_at {B : Nat} {w : World} {va : Option Addr} {n vc : Nat} {xs : List Value} (h : w.ownsRow B 45 5 (.slice va n vc) n xs) : (va = none ∧ n = 0 ∧ vc = 0) ∨ ∃ g, va = some ⟨g, 0, none⟩ := by
  rcases h.2 with ⟨h1, h2⟩ | ⟨g, cap, cur, h1, -⟩
  · simp only [Value.slice.injEq] at h1
    exact .inl ⟨h1.1, h2, h1.2.2⟩
  · simp only [Value.slice.injEq] at h1
    exact .inr ⟨g, h1.1⟩
/-- the first of a row. -/
theorem TwOwn.take {B : Nat} {w : World} {g n cap m : Nat} {l : List Tw} (hn : n = l.length) (h : TwOwn B w (.slice (some ⟨g, 0, none⟩) n cap) l) (hm : m ≤ n) : TwOwn B w (.slice (some ⟨g, 0, none⟩) m cap) (l.take m) := by
  subst hn
  unfold TwOwn at h ⊢
  rw [List.length_take, Nat.min_eq_left hm]
  exact own_takeC twc_len (by omega) h hm
set_option maxRecDepth 100000 in
set_option maxHeartbeats 4000000 in
theorem rBack_any {B rb : Nat} {v : Value} {l : List Tw} {most peak : Nat} (n : Int) (w : World) (h : DoB B w rb v l most peak) (hr : rightB l = true) :
    Calls Tryz.prog 69 #[.pointer (some ⟨rb, 0, none⟩), .int .i64 n] w fun e w' => e = .returned (.int .i64 (bBack l n).1) ∧ DoN B w rb v (bBack l n).2 most peak w' := by
  have H := Lib.hid h
  have HM := Lib.hid (rMark_any n w h)
  cases hm : isMark l n with
  | false =>
    have HP := Lib.hid (show bBack l n = (2, l) from by unfold bBack; rw [hm]; rfl)
    rw [hm] at HM
    clear hm h hr
    go_enter Tryz.func69, Tryz.ntmps69
    go_wp2_with fail
    refine HM.out.mono ?_
    rintro e w1 ⟨rfl, hb⟩
    go_wp2
    go_ret
    rw [HP.out]
    exact ⟨rfl, DoN.self H.out hb⟩
  | true =>
    obtain ⟨m, rfl, hml⟩ := mark_le hm hr
    have HP := Lib.hid (show bBack l m = (0, l.take m) from by unfold bBack; rw [if_pos hm, Int.toNat_natCast])
    rw [hm] at HM
    have hown := h.own
    unfold TwOwn at hown
    obtain ⟨va, vc, rfl⟩ := own_val hown
    obtain ⟨len, hlen⟩ : ∃ len, len = l.length := ⟨_, rfl⟩
    have HLe := Lib.hid hlen
    rw [← hlen] at h H hml hown ⊢
    have hl5 : len ≤ 100000 := by rw [hlen]; exact H.out.len
    have hcap := own_cap hown
    have hor := own_at hown
    obtain ⟨i0, hi0, hz0, hz1, hz2⟩ := info_parts Tryz.infoTwig
    clear hm hr h hown hlen
    have HTo := Lib.hid (fun u (hu : Below w.heap.size w u) (v2 : Value) (h2 : TwOwn w.heap.size u v2 (l.take m)) => by
      have hd := H.out.later hu
      have := back_fin (v2 := v2) hd (show TwOwn B u v2 _ from ownsRow_base h2 H.out.bw) (fun t ht => hd.ok t (List.mem_of_mem_take ht)) (by rw [List.length_take]; omega)
      exact (show DoN B w rb (.slice va len vc) (l.take m) most peak (u.setCell ⟨rb, 0, none⟩ v2) from ⟨v2, this.1, (Keeps.ofNew hu _).trans this.2, fun k hk => .inr (h2.lt k hk).1⟩))
    obtain ⟨hcap1, hcap2⟩ := hcap
    unfold maxLen at hcap2
    rcases hor with ⟨rfl, rfl, rfl⟩ | ⟨g, rfl⟩
    · obtain rfl : m = 0 := by omega
      go_enter Tryz.func69, Tryz.ntmps69
      go_wp2_with fail
      refine HM.out.mono ?_
      rintro e w1 ⟨rfl, hb⟩
      have HB1 := Lib.hid hb
      have hal := (Below.refl w1.heap.size w1).alloc (Nat.le_refl _) (.cells #[] 45 (0, 0))
      have HBa := Lib.hid hal
      obtain ⟨c0, -, -⟩ := three_box (H.out.later (hb.trans (hal.mono hb.size))).blk
      have hrb := Nat.lt_of_lt_of_le (lt_of_block H.out.blk) hb.size
      clear hb hal
      go_wp2_with (at_builtin; refine wpList_append_tu rfl (.tmp 10) (.tmp 16) 22 22 rfl w1.heap.size 45 45 i0 _ 5 40 Tryz.underlying22 Tryz.underlying22 hi0 hz0 hz1 hz2 rfl (by decide) (some ⟨w1.heap.size, 0, none⟩) 0 0 [] rfl (empty_tw (heap_alloc_new w1 _) (Nat.le_refl _)) none 0 0 [] rfl (fun h => rfl) rfl (fun ad h => by cases h) (fun u hu => by simp at hu) (by unfold maxLen; omega) (by omega) HBa.out.size ?_; intro v3 w3 hown3 hgrow3; simp only [Nat.zero_add, List.nil_append] at hown3; obtain ⟨a3, p3, rfl⟩ := own_val hown3; have hb3 := HBa.out.grown hgrow3 HBa.out.size (fun k hk => by cases hk; exact Nat.le_refl _); have HF := Lib.hid (HTo.out w3 (HB1.out.trans (hb3.mono HB1.out.size)) _ (by unfold TwOwn; have h0 : (l.take 0).length = 0 := rfl; rw [h0]; exact ownsRow_base hown3 HB1.out.size)); have hbk := (H.out.later (HB1.out.trans (hb3.mono HB1.out.size))).blk; clear c0; obtain ⟨c0, -, -⟩ := three_box hbk; obtain ⟨f0, -, -⟩ := three_free hbk; clear hbk hb3 hown3 hgrow3)
      go_ret
      rw [HP.out]
      exact ⟨rfl, HF.out⟩
    · go_enter Tryz.func69, Tryz.ntmps69
      have hm1 : (m : Int) ≤ vc := by omega
      go_wp2_with fail
      refine HM.out.mono ?_
      rintro e w1 ⟨rfl, hb⟩
      have HB1 := Lib.hid hb
      have hal := (Below.refl w1.heap.size w1).alloc (Nat.le_refl _) (.cells #[] 45 (0, 0))
      have HBa := Lib.hid hal
      have hd := H.out.later (hb.trans (hal.mono hb.size))
      obtain ⟨c0, -, -⟩ := three_box hd.blk
      have HTk := Lib.hid (rows_news twc_len (by omega) (TwOwn.tw (TwOwn.take HLe.out hd.own hml)))
      have hlt : (l.take m).length = m := by rw [List.length_take, ← HLe.out]; omega
      have HLt := Lib.hid hlt
      have hrb := Nat.lt_of_lt_of_le (lt_of_block H.out.blk) hb.size
      clear hb hal hd hlt
      go_wp2_with (at_builtin; refine wpList_append_tu rfl (.tmp 10) (.tmp 16) 22 22 rfl w1.heap.size 45 45 i0 _ 5 40 Tryz.underlying22 Tryz.underlying22 hi0 hz0 hz1 hz2 rfl (by decide) (some ⟨w1.heap.size, 0, none⟩) 0 0 [] rfl (empty_tw (heap_alloc_new w1 _) (Nat.le_refl _)) (some ⟨g, 0, none⟩) m vc (tvs (l.take m)) rfl (fun h => by cases h) (by rw [flat_len twc_len, HLt.out]) HTk.out.2.2.2.2 (flat_one twc_one _) (by unfold maxLen; omega) (by omega) HBa.out.size ?_; intro v3 w3 hown3 hgrow3; simp only [Nat.zero_add, List.nil_append] at hown3; obtain ⟨a3, p3, rfl⟩ := own_val hown3; have hb3 := HBa.out.grown hgrow3 HBa.out.size (fun k hk => by cases hk; exact Nat.le_refl _); have HF := Lib.hid (HTo.out w3 (HB1.out.trans (hb3.mono HB1.out.size)) _ (by unfold TwOwn; rw [HLt.out]; exact ownsRow_base hown3 HB1.out.size)); have hbk := (H.out.later (HB1.out.trans (hb3.mono HB1.out.size))).blk; clear c0; obtain ⟨c0, -, -⟩ := three_box hbk; obtain ⟨f0, -, -⟩ := three_free hbk; clear hbk hb3 hown3 hgrow3)
      go_ret
      rw [HP.out]
      exact ⟨rfl, HF.out⟩
end Go.Proofs.YtadkjjpopmiceaaGreat
