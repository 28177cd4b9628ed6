/-
  Arena: ArenaBack, the walk.
-/
import Derived.Test.YtonnolhhgeekpaaC
namespace Go.Proofs.Ytonnolhhgeekpaa
open Go.RowKit

theorem iput_one {B x n : Nat} (w : World) (zs : List Int) (z : Int) (most peak : Nat) (h : IOne B w x (iv zs) most peak) (hf : zs.length + 1 ≤ most) (hl : zs.length + 1 ≤ 1000000) (hn : n = zs.length) :
    Calls Try.prog 9 #[.pointer (some ⟨x, 0, none⟩), .slice (some ⟨w.heap.size, 0, none⟩) 1 1] (w.alloc (.cells #[.int .i64 z] 3)) fun e w' => e = .returned (.tuple #[.int .i64 n, .int .i64 0]) ∧ IOne B w' x (iv (zs ++ [z])) most (max peak (zs.length + 1)) ∧ Below B w w' := by
  have hb : Below w.heap.size w (w.alloc (.cells #[.int .i64 z] 3)) := (Below.refl _ _).alloc (Nat.le_refl _) _
  refine (Iput1 _ (h.later hb) (cells_lit w #[.int .i64 z] 3 (0, 0) 1 rfl (by simp [Value.oneCell']) (by omega)) (by simpa using hf) (by simpa using hl)).mono ?_
  rintro e w' ⟨rfl, h1, h2⟩
  exact ⟨by simp [hn], by simpa [iv] using h1, (hb.mono h.2.1).trans h2⟩

theorem iput_no {B x : Nat} (w : World) (zs : List Int) (z : Int) (most peak : Nat) (h : IOne B w x (iv zs) most peak) (hf : most < zs.length + 1) :
    Calls Try.prog 9 #[.pointer (some ⟨x, 0, none⟩), .slice (some ⟨w.heap.size, 0, none⟩) 1 1] (w.alloc (.cells #[.int .i64 z] 3)) fun e w' => e = .returned (.tuple #[.int .i64 0, .int .i64 12]) ∧ IOne B w' x (iv zs) most peak ∧ Below B w w' := by
  have hb : Below w.heap.size w (w.alloc (.cells #[.int .i64 z] 3)) := (Below.refl _ _).alloc (Nat.le_refl _) _
  refine (Iput1_full _ (h.later hb) (cells_lit w #[.int .i64 z] 3 (0, 0) 1 rfl (by simp [Value.oneCell']) (by omega)) (by simpa using hf)).mono ?_
  rintro e w' ⟨rfl, h1, h2⟩
  exact ⟨rfl, h1, (hb.mono h.2.1).trans h2⟩

theorem iat_in {B x : Nat} (w : World) (zs : List Int) (most peak k : Nat) (h : IOne B w x (iv zs) most peak) (hk : k < zs.length) :
    Calls Try.prog 16 #[.pointer (some ⟨x, 0, none⟩), .int .i64 k] w fun e w' => e = .returned (.tuple #[.int .i64 zs[k], .bool true]) ∧ w = w' := by
  have := Iat1 w k h
  simpa [hk] using this
theorem iat_end {B x : Nat} (w : World) (zs : List Int) (most peak k : Nat) (h : IOne B w x (iv zs) most peak) (hk : k = zs.length) :
    Calls Try.prog 16 #[.pointer (some ⟨x, 0, none⟩), .int .i64 k] w fun e w' => e = .returned (.tuple #[.int .i64 0, .bool false]) ∧ w = w' := by
  have := Iat1 w k h
  subst hk
  simpa using this

set_option maxRecDepth 100000 in
set_option maxHeartbeats 4000000 in
theorem arenaBack_any (v0 v1 : Value) (aa bb : List Int) (rounds : Int) (w : World) (ha : CellsAt w v0 (iv aa)) (hb : CellsAt w v1 (iv bb)) (hwf : (Lit.int .i64 rounds).wf = true) (hla : aa.length ≤ 17592186044416) (hlb : bb.length ≤ 17592186044416) :
    Calls Try.prog 3 #[v0, v1, .int .i64 rounds] w fun e w' => e = .returned (.bool true) ∧ Below w.heap.size w w' := by
  have Ha := Lib.hid ha
  have Hb := Lib.hid hb
  obtain ⟨ao0, b0, off0, cap0, hv0, hlc0, hm0, _, hao0, _, hc0⟩ := ha
  obtain ⟨ao1, b1, off1, cap1, hv1, hlc1, hm1, _, hao1, _, hc1⟩ := hb
  simp only [List.length_map] at *
  have hc0' : ∀ k (h : k < aa.length), w.cell? ⟨b0, off0 + k, none⟩ = some (.int .i64 aa[k]) := fun k hk => by have := hc0 k hk; simpa using this
  have hc1' : ∀ k (h : k < bb.length), w.cell? ⟨b1, off1 + k, none⟩ = some (.int .i64 bb[k]) := fun k hk => by have := hc1 k hk; simpa using this
  have Hc0 := Lib.hid hc0'
  have Hc1 := Lib.hid hc1'
  have Hao0 := Lib.hid hao0
  have Hao1 := Lib.hid hao1
  have Hwf := Lib.hid hwf
  clear hc0 hc1 hc0' hc1' hao0 hao1 hm0 hm1 hwf
  obtain ⟨n, hn⟩ : ∃ n, n = aa.length := ⟨_, rfl⟩
  obtain ⟨m, hm⟩ : ∃ m, m = bb.length := ⟨_, rfl⟩
  rw [← hn] at hlc0 hv0 hla Hao0
  rw [← hm] at hlc1 hv1 hlb Hao1
  subst hv0; subst hv1
  have Hn := Lib.hid hn
  have Hm := Lib.hid hm
  clear hn hm
  by_cases hbig : 400 < n + m
  · have hbig' : (400 : Int) < (n : Int) + m := by omega
    go_enter Try.func3, Try.ntmps3
    go_wp2_with (go_at_call 7; refine (awake_any _).mono ?_; rintro e w1 ⟨rfl, hb1⟩)
    go_ret
    exact ⟨rfl, hb1⟩
  have hbig' : ¬ (400 : Int) < (n : Int) + m := by omega
  go_enter Try.func3, Try.ntmps3
  go_wp2_with fail
  refine (awake_any _).mono ?_
  rintro e w1 ⟨rfl, hb1⟩
  have Hnew := Lib.hid (Inew1 (n + m) w1 (by omega))
  simp only [Int.natCast_add] at Hnew
  go_wp2_with fail
  refine Hnew.out.mono ?_
  rintro e w2 ⟨x, rfl, h2, hb2⟩
  have H2 := Lib.hid h2
  clear h2 Hnew
  have hb02 := hb1.trans (hb2.mono hb1.size)
  have hput := Iput1 (vl := .slice ao0 n cap0) (ys := iv aa) w2 H2.out (Ha.out.later hb02) (by simp [← Hn.out]) (by simp [← Hn.out]; omega)
  have Hput := Lib.hid hput
  clear hput
  go_wp2_with fail
  refine Hput.out.mono ?_
  rintro e w3 ⟨rfl, h3, hb3⟩
  have h3' : IOne w1.heap.size w3 x (iv aa) (n + m) n := by have := Hn.out; simpa [this] using h3
  have H3 := Lib.hid h3'
  clear h3 h3' Hput
  have hB : w.heap.size ≤ w1.heap.size := hb1.size
  have hb03 := hb02.trans (hb3.mono hB)
  have Hmk := Lib.hid (Imark1 w3 H3.out)
  simp only [List.length_map, ← Hn.out] at Hmk
  go_wp2_with fail
  refine Hmk.out.mono ?_
  rintro e w4 ⟨rfl, rfl⟩
  clear Hmk
  go_wp2
  go_loopw [12] (fun r wr => ∃ (q pk : Nat), q ≤ 10 ∧ r = .int .i64 q ∧ pk ≤ n + m ∧ n ≤ pk ∧ IOne w1.heap.size wr x (iv aa) (n + m) pk ∧ Below w1.heap.size w3 wr) (fun r _ => 10 - (intOf r).toNat)
  case atStart => exact ⟨0, n, by omega, rfl, by omega, by omega, H3.out, Below.refl _ _⟩
  case round =>
    obtain ⟨q, pk, hq, rfl, hpk, hpk2, hone, hbr⟩ := hrel
    have Hone := Lib.hid hone
    clear hone
    have hbq := hb03.trans (hbr.mono hB)
    have hpick := fun wq => pick_any rounds 3 wq (by omega) Hwf.out
    obtain ⟨pq, hpq⟩ : ∃ pq, pq = rounds % 3 := ⟨_, rfl⟩
    have hpq0 : 0 ≤ pq ∧ pq < 3 := by omega
    rw [← hpq] at hpick
    have Hpick := Lib.hid hpick
    have Hpq := Lib.hid hpq
    clear hpick hpq
    obtain ⟨hpq1, hpq2⟩ := hpq0
    by_cases hlt : (q : Int) < 1 + pq
    · go_wp2_with fail
      refine (Hpick.out _).mono ?_
      rintro e w5 ⟨rfl, rfl⟩
      go_wp2
      obtain ⟨wo, rfl⟩ : ∃ wo : World, wo = wr := ⟨_, rfl⟩
      go_loopw [13] (fun i wr => ∃ (j p2 : Nat), j ≤ m ∧ i = .int .i64 j ∧ p2 ≤ n + m ∧ n + j ≤ p2 ∧ IOne w1.heap.size wr x (iv (aa ++ bb.take j)) (n + m) p2 ∧ Below w1.heap.size w3 wr) (fun i _ => m - (intOf i).toNat)
      case atStart => exact ⟨0, pk, by omega, rfl, hpk, by omega, by simpa using Hone.out, hbr⟩
      case round =>
        obtain ⟨j, p2, hj, rfl, hp2, hp3, hone2, hbr2⟩ := hrel
        have Hone2 := Lib.hid hone2
        clear hone2
        have hbq2 := hb03.trans (hbr2.mono hB)
        have hzl : (aa ++ bb.take j).length = n + j := by simp [← Hn.out, ← Hm.out]; omega
        by_cases hjm : j < m
        · have hjb : j < bb.length := by rw [← Hm.out]; exact hjm
          have hcell := cell_later hbq2 (Hc1.out j hjb)
          obtain ⟨z, hz⟩ : ∃ z, z = bb[j] := ⟨_, rfl⟩
          rw [← hz] at hcell
          obtain rfl := Hao1.out (by omega)
          have hput2 := iput_one (n := n + j) wr (aa ++ bb.take j) z (n + m) p2 Hone2.out (by omega) (by omega) hzl.symm
          have happ : aa ++ bb.take j ++ [z] = aa ++ bb.take (j + 1) := by rw [hz, List.append_assoc, List.take_succ_eq_append_getElem hjb]
          rw [happ, hzl] at hput2
          simp only [Int.natCast_add] at hput2
          have Hput2 := Lib.hid hput2
          have hzl2 : (aa ++ bb.take (j + 1)).length = n + j + 1 := by simp [← Hn.out, ← Hm.out]; omega
          have Hzl2 := Lib.hid hzl2
          clear hput2 happ hz hzl hzl2
          go_wp2_with fail
          refine Hput2.out.mono ?_
          rintro e w5 ⟨rfl, hone5, hb5⟩
          have Hone5 := Lib.hid hone5
          have Hl5 := Lib.hid (Ilen1 w5 Hone5.out)
          have Hf5 := Lib.hid (Ileft1 w5 Hone5.out)
          simp only [List.length_map, Hzl2.out, Int.natCast_add] at Hl5 Hf5
          clear hone5 Hput2
          have hsum : (((n : Int) + j + 1) + ((n : Int) + m - ((n : Int) + j + 1)) != (n : Int) + m) = false := by simp; omega
          go_wp2_with fail
          refine Hl5.out.mono ?_
          rintro e w6 ⟨rfl, rfl⟩
          go_wp2_with fail
          refine Hf5.out.mono ?_
          rintro e w6 ⟨rfl, md, rfl⟩
          go_wp2
          go_roundw
          case rel => exact ⟨j + 1, _, by omega, by go_num, by omega, by omega, Hone5.out.later (below_draws (Below.refl _ _) md), below_draws (hbr2.trans hb5) md⟩
          case measure => simp [intOf]; omega
        · have hjm' : j = m := by omega
          have hfull : bb.take j = bb := by rw [hjm', Hm.out]; exact List.take_length
          rw [hfull] at Hone2
          have hp4 : p2 = n + m := by omega
          rw [hp4] at Hone2
          have hput2 := iput_no wr (aa ++ bb) 1 (n + m) (n + m) Hone2.out (by simp [← Hn.out, ← Hm.out])
          have Hput2 := Lib.hid hput2
          clear hfull hp4 hput2 hjm' hzl
          have hjm'' : ¬ (j : Int) < m := by omega
          go_wp2_with fail
          refine Hput2.out.mono ?_
          rintro e w5 ⟨rfl, hone5, hb5⟩
          have hbk := Iback1 (zs := aa ++ bb) w5 n hone5 (by simp [← Hn.out])
          have htk : (aa ++ bb).take n = aa := by rw [Hn.out]; exact List.take_left
          rw [htk] at hbk
          have Hbk := Lib.hid hbk
          clear hbk htk hone5 Hput2
          go_wp2_with fail
          refine Hbk.out.mono ?_
          rintro e w6 ⟨rfl, hone6, hb6⟩
          have Hone6 := Lib.hid hone6
          have Hl6 := Lib.hid (Ilen1 w6 Hone6.out)
          have Hp6 := Lib.hid (Ipeak1 w6 Hone6.out)
          simp only [List.length_map, ← Hn.out, Int.natCast_add] at Hl6 Hp6
          clear hone6 Hbk
          have hb16 := (hbr2.trans hb5).trans hb6
          go_wp2_with fail
          refine Hl6.out.mono ?_
          rintro e w7 ⟨rfl, rfl⟩
          go_wp2_with fail
          refine Hp6.out.mono ?_
          rintro e w7 ⟨rfl, rfl⟩
          go_wp2
          go_loop [18] (fun i => ∃ h : Nat, h ≤ n ∧ i = .int .i64 h) (fun i => n - (intOf i).toNat)
          case atStart => exact ⟨0, by omega, rfl⟩
          case round =>
            obtain ⟨h, hh, rfl⟩ := hrel
            by_cases hhn : h < n
            · have hha : h < aa.length := by rw [← Hn.out]; exact hhn
              have hcell := cell_later (hb03.trans (hb16.mono hB)) (Hc0.out h hha)
              have hat := iat_in w6 aa (n + m) (n + m) h Hone6.out hha
              obtain ⟨z, hz⟩ : ∃ z, z = aa[h] := ⟨_, rfl⟩
              rw [← hz] at hcell hat
              clear hz
              obtain rfl := Hao0.out (by omega)
              have Hat := Lib.hid hat
              clear hat
              have hhn' : (h : Int) < n := by omega
              go_wp2_with fail
              refine Hat.out.mono ?_
              rintro e w7 ⟨rfl, rfl⟩
              go_wp2
              go_round
              case rel => exact ⟨h + 1, by omega, by go_num⟩
              case measure => simp [intOf]; omega
            · have hhn' : ¬ (h : Int) < n := by omega
              have Hat := Lib.hid (iat_end w6 aa (n + m) (n + m) n Hone6.out Hn.out)
              go_wp2_with fail
              refine Hat.out.mono ?_
              rintro e w7 ⟨rfl, rfl⟩
              go_wp2
              go_roundw
              case rel => exact ⟨q + 1, n + m, by omega, by go_num, by omega, by omega, Hone6.out, hb16⟩
              case measure => simp [intOf]; omega
    · have hlt' : 1 + pq ≤ (q : Int) := by omega
      go_wp2_with fail
      refine (Hpick.out _).mono ?_
      rintro e w5 ⟨rfl, rfl⟩
      have Hbk := Lib.hid (Iback1_out wr ((n : Int) + 1) Hone.out (by simp [← Hn.out]; omega))
      go_wp2_with fail
      refine Hbk.out.mono ?_
      rintro e w6 ⟨rfl, rfl⟩
      have Hlf := Lib.hid (Ileft1 wr Hone.out)
      simp only [List.length_map, ← Hn.out] at Hlf
      go_wp2_with fail
      refine Hlf.out.mono ?_
      rintro e w7 ⟨rfl, md, rfl⟩
      have hfin : ((n : Int) + m - n == (m : Int)) = true := by rw [beq_iff_eq]; omega
      go_wp2
      go_ret
      exact ⟨rfl, below_draws hbq _⟩

end Go.Proofs.Ytonnolhhgeekpaa
