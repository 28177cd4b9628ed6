/-
  The law's row; CopyTwigs.
-/
import Derived.Test.YtadkjjpopmiceaaTbg
namespace Go.Proofs.Ytadkjjpopmiceaa
open Go.RowKit Go.Lib

theorem sizR_of {l : List Tw} {n m : Nat} {ks : List Nat} (h : rightB l = true) (hs : Sub l n m ks) : sizR l n = m - n := by
  unfold sizR hasR
  have := hs.lt
  rw [h, show decide ((0 : Int) ≤ (n : Int) ∧ (n : Int) < l.length) = true from by simp; omega]
  simp only [Bool.and_true, if_true, Int.toNat_natCast, hs.aN]
theorem parV_of {l : List Tw} {n : Nat} (h : rightB l = true) (hn : n < l.length) : parV l n = (match parF l n with
    | some p => .tuple #[.int .i64 (p : Int), .bool true]
    | none => .tuple #[.int .i64 0, .bool false]) := by
  unfold parV hasR
  rw [h, show decide ((0 : Int) ≤ (n : Int) ∧ (n : Int) < l.length) = true from by simp; omega]
  simp only [Bool.and_true, if_true, Int.toNat_natCast]
  cases parF l n <;> rfl
theorem parV_root {l : List Tw} (h : rightB l = true) {r : Nat} (hr : r ∈ topR l) : r < l.length ∧ parV l r = .tuple #[.int .i64 0, .bool false] := by
  obtain ⟨rs, hF⟩ := (rightB_iff l).1 h
  rw [topR_of h hF] at hr
  have hl := (hF.root r hr).2
  refine ⟨hl, ?_⟩
  rw [parV_of h hl, parF_none (fun q hq => hF.before r hr q (Nat.zero_le _) hq)]
theorem parV_kid {l : List Tw} (h : rightB l = true) {n m i : Nat} {ks : List Nat} (hs : Sub l n m ks) (hi : i ∈ ks) : i < l.length ∧ parV l i = .tuple #[.int .i64 (n : Int), .bool true] := by
  have hr := hs.2.2.2.root i hi
  have hl : i < l.length := by have := hs.lt; omega
  have hp : Par l i n := ⟨by omega, m, ks, hs, hi⟩
  refine ⟨hl, ?_⟩
  rw [parV_of h hl, parF_some hp.1 hp.in hp.above]
/-- what is known at a round's head. -/
def RoI (l : List Tw) (rs : List Nat) (lo st : Int) (n e k : Nat) (q : Nat) (tov : Int) : Prop := ∃ n' a', For l lo st a' n' e (rs.drop k) ∧ q + n = n' ∧ tov ≤ a'
theorem RoI.at {l : List Tw} {rs : List Nat} {lo st : Int} {n e k q : Nat} {tov : Int} (h : RoI l rs lo st n e k q tov) (hk : k < rs.length) : ∃ m ks, Sub l rs[k] m ks ∧ tov ≤ (atT l rs[k]).fr ∧ (atT l rs[k]).to ≤ st ∧ RoI l rs lo st n e (k + 1) (q + (m - rs[k])) (atT l rs[k]).to ∧ rs[k] < l.length ∧ m ≤ l.length := by
  obtain ⟨n', a', hF, hq, ht⟩ := h
  rw [List.drop_eq_getElem_cons hk] at hF
  obtain ⟨m, ks, hs, h1, h2, h3, h4, h5⟩ := hF.uncons
  have := hs.lt
  exact ⟨m, ks, hs, by omega, h3, ⟨m, _, h1, by omega, Int.le_refl _⟩, hs.1, hs.lt.2⟩
theorem RoI.over {l : List Tw} {rs : List Nat} {lo st : Int} {n e k q : Nat} {tov : Int} (h : RoI l rs lo st n e k q tov) (hk : rs.length ≤ k) : q + n = e := by
  obtain ⟨n', a', hF, hq, ht⟩ := h
  rw [List.drop_eq_nil_of_le hk] at hF
  have := hF.nil_eq
  omega
theorem RoI.le {l : List Tw} {rs : List Nat} {lo st : Int} {n e k q : Nat} {tov : Int} (h : RoI l rs lo st n e k q tov) : q ≤ e := by
  obtain ⟨n', a', hF, hq, ht⟩ := h
  have := hF.le
  omega
set_option maxRecDepth 100000 in
set_option maxHeartbeats 4000000 in
theorem lawRow_any {l : List Tw} {rs : List Nat} {lo st a : Int} {n e : Nat} (v vk : Value) (sf size : Int) (w : World) (h : TwRow w v l) (hr : rightB l = true) (hk : NmAt w vk rs) (hF : For l lo st a n e rs) (ha : sf ≤ a) (hz : size + n = e) (hl : l.length ≤ 1000) (he : e ≤ l.length) :
    Calls Try.prog 31 #[v, vk, .agg #[.int .i64 sf, .int .i64 st], .int .i64 size] w fun en w' => en = .returned (.bool true) ∧ Below w.heap.size w w' := by
  have H := Lib.hid h
  have HK := Lib.hid hk
  have HRi := Lib.hid hr
  have HI0 := Lib.hid (show RoI l rs lo st n e 0 0 sf from ⟨n, a, by simpa using hF, by omega, ha⟩)
  obtain ⟨ao, cap, rfl⟩ := h.at'.val
  obtain ⟨ka, kc, rfl, -, -⟩ := hk.val
  have hlc := h.at'.cells.2.1
  have hkl := hk.len
  obtain ⟨-, hkc, hkm⟩ := hkl
  obtain ⟨len, hlen⟩ : ∃ len, len = l.length := ⟨_, rfl⟩
  obtain ⟨rn, hrn⟩ : ∃ rn, rn = rs.length := ⟨_, rfl⟩
  rw [← hlen] at H hl he hlc ⊢
  rw [← hrn] at HK hkc ⊢
  have HLe := Lib.hid hlen
  have HRn := Lib.hid hrn
  have Hz := Lib.hid hz
  clear h hr hk hF ha hlen hrn hz
  go_enter Try.func31, Try.ntmps31
  go_upto_region 1 with (fail)
  refine gen_world (S := fun u => Below w.heap.size w u ∧ u.heap[w.heap.size]? = some (.cells #[.int .i64 sf, .int .i64 st] 30 (0, 0))) (one_new w _) (fun u hu => ?_)
  obtain ⟨hb0, hx⟩ := hu
  obtain ⟨X, hX⟩ : ∃ X, X = w.heap.size := ⟨_, rfl⟩
  rw [← hX] at hx ⊢
  have HB0 := Lib.hid hb0
  have HX := Lib.hid hx
  obtain ⟨x0, x1⟩ := two_box hx
  clear hb0 hX hx
  go_quiet (fail)
  clear x0 x1
  go_wp2
  go_loopw [9, 10, 11] (fun s t i wr => ∃ (k q : Nat) (tov : Int), k ≤ rn ∧ s = .int .i64 q ∧ t = .int .i64 tov ∧ i = .int .i64 k ∧ Hid (RoI l rs lo st n e k q tov) ∧ Below w.heap.size w wr ∧ Below u.heap.size u wr) (fun _ _ i _ => rn - (intOf i).toNat)
  case atStart => exact ⟨0, 0, sf, by omega, rfl, rfl, rfl, HI0, below_draws HB0.out _, below_draws (Below.refl _ _) _⟩
  case round =>
    obtain ⟨k, q, tov, hk, rfl, rfl, rfl, HI, hbel, hbu⟩ := hrel
    have HBr := Lib.hid hbel
    have HTr := Lib.hid (H.out.later hbel)
    have HKr := Lib.hid (HK.out.later hbel)
    have HXr := Lib.hid ((hbu.block _ (lt_of_block HX.out)).trans HX.out)
    have HBu := Lib.hid hbu
    have hqe := HI.out.le
    clear hbel hbu
    by_cases hlt : k < rn
    · have hlt' : (k : Int) < rn := by omega
      have hkr : k < rs.length := by rw [← HRn.out]; exact hlt
      obtain ⟨m, ks, hs, h1, h2, h3, hx, hm⟩ := HI.out.at hkr
      obtain ⟨b, off, rfl, -, c0⟩ := HKr.out.cells hkr
      obtain ⟨r, hre⟩ : ∃ r, r = rs[k] := ⟨_, rfl⟩
      rw [← hre] at hs h1 h2 h3 hx c0
      obtain ⟨tb, toff, rfl, -, c1, c2, -⟩ := HTr.out.at'.span hx
      have hsz := sizR_of HRi.out hs
      have hsl := hs.lt
      rw [← HLe.out] at hx hm
      have hx' : (r : Int) < len := by omega
      have hx0 : (0 : Int) ≤ r := by omega
      have hx1 : ¬ (r : Int) < 0 := by omega
      have hx2 : ¬ (len : Int) ≤ r := by omega
      obtain ⟨fr, hfr⟩ : ∃ fr, fr = (atT l r).fr := ⟨_, rfl⟩
      obtain ⟨tz, htz⟩ : ∃ tz, tz = (atT l r).to := ⟨_, rfl⟩
      rw [← hfr] at c1 h1
      rw [← htz] at c2 h2 h3
      have h1' : ¬ fr < tov := by omega
      have h2' : ¬ st < tz := by omega
      have HI2 := Lib.hid h3
      have hz := tSize_any _ r _ HTr.out
      rw [hsz] at hz
      obtain ⟨d, hd⟩ : ∃ d, d = m - r := ⟨_, rfl⟩
      rw [← hd] at hz HI2
      have HZ := Lib.hid (fun (mm : Nat) => (show Calls Try.prog 33 #[.slice (some ⟨tb, toff, none⟩) len cap, .int .i64 r] (wr.drewN mm) fun en w' => en = .returned (.int .i64 d) ∧ Below wr.heap.size wr w' from by
        have := tSize_any (.slice (some ⟨tb, toff, none⟩) len cap) r (wr.drewN mm) (HTr.out.later (below_draws (Below.refl _ _) mm))
        rw [hsz, ← hd] at this
        exact this.mono fun en w' hh => ⟨hh.1, (below_draws (Below.refl _ _) mm).trans hh.2⟩))
      have hdl : q + d ≤ 2000 := by omega
      obtain ⟨y0, y1⟩ := two_box HXr.out
      clear hs hfr htz hre h1 h2 h3 hz hd hsz hm hsl
      go_wp2_with fail
      go_quiet (fail)
      go_wp2_with fail
      refine (HZ.out _).mono ?_
      rintro en w5 ⟨rfl, hb⟩
      have HB5 := Lib.hid (HBr.out.trans (hb.mono HBr.out.size))
      have HB6 := Lib.hid (HBu.out.trans (hb.mono HBu.out.size))
      clear hb HZ c0 c1 c2 y0 y1
      go_wp2
      go_roundw
      case rel => exact ⟨k + 1, q + d, tz, by omega, by go_num, rfl, by go_num, HI2, HB5.out, HB6.out⟩
      case measure => simp [intOf]; omega
    · have hlt' : ¬ (k : Int) < rn := by omega
      have ho := HI.out.over (by rw [← HRn.out]; omega)
      have hz := Hz.out
      have hqs : (q : Int) = size := by omega
      go_wp2
      go_ret
      exact ⟨ret_bool (by simp), HBr.out⟩
set_option maxRecDepth 100000 in
set_option maxHeartbeats 1000000 in
theorem copyTwigs_any {l : List Tw} (v : Value) (w : World) (h : TwAt w v l) (hl : l.length ≤ 1000000) :
    Calls Try.prog 34 #[v] w fun en w' => ToldT w l en w' := by
  obtain ⟨ao, cap, rfl⟩ := h.val
  obtain ⟨-, hlc, hcm, hnil, hnews⟩ := rows_news twc_len (by omega) h
  obtain ⟨n, hn⟩ : ∃ n, n = l.length := ⟨_, rfl⟩
  have HN := Lib.hid hn
  rw [← hn] at hl hnil h hlc ⊢
  have Hnil := Lib.hid hnil
  have Hnews := Lib.hid hnews
  clear h hn hnil hnews
  obtain ⟨i0, hi0, hz0, hz1, hz2⟩ := info_parts Try.infoTwig
  go_enter Try.func34, Try.ntmps34
  go_wp2_with (at_builtin; refine wpList_append_tu rfl (.tmp 4) (.tmp 5) 22 22 rfl w.heap.size 32 32 i0 _ 5 40 Try.underlying22 Try.underlying22 hi0 hz0 hz1 hz2 rfl (by decide) none 0 0 [] rfl ⟨rfl, .inl ⟨rfl, rfl⟩⟩ ao n cap (tvs l) rfl (fun h => (Hnil.out h).1) (by rw [flat_len twc_len, HN.out]) Hnews.out (flat_one twc_one _) (by unfold maxLen; omega) (by omega) (Nat.le_refl _) ?_; intro v' w3 hown hgrow; obtain ⟨a3, p3, rfl⟩ := own_val hown)
  have HO := Lib.hid (show TwOwn w.heap.size w3 (.slice a3 n p3) l from by
    unfold TwOwn
    rw [← HN.out]
    simpa using hown)
  have HB := Lib.hid (show Below w.heap.size w w3 from (Below.refl _ _).grown hgrow (Nat.le_refl _) (fun k hk => by cases hk))
  clear hown hgrow
  go_wp2
  go_ret
  exact ⟨_, rfl, HO.out, HB.out⟩
end Go.Proofs.Ytadkjjpopmiceaa
