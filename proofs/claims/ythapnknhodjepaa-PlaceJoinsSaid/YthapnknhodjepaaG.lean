/-
  Place: PlaceBack, the walk.
-/
import Derived.Test.YthapnknhodjepaaF
namespace Go.Proofs.Ythapnknhodjepaa
open Go.RowKit

theorem toNat_ten (c : UInt8) : (c.toNat : Int) = 10 ↔ c = 10 := by
  constructor
  · intro h; apply UInt8.toNat.inj; simp; omega
  · rintro rfl; rfl

theorem first_zero (t : List UInt8) (n : Nat) : (nls t n).getD 0 0 = 0 := by
  have := nls_prefix t 0 n (Nat.zero_le _) 0 (by simp [lno])
  simpa [nls] using this

/-- what the second loop finds of line k. -/
theorem line_facts (t : List UInt8) (k : Nat) (hk : k < lno t t.length) :
    ((nls t t.length).getD k 0 ≤ lineEnd (nls t t.length) t.length k ∧ lineEnd (nls t t.length) t.length k ≤ t.length) ∧
    (k + 1 < lno t t.length → lineEnd (nls t t.length) t.length k = (nls t t.length).getD (k + 1) 0 ∧ (nls t t.length).getD k 0 < lineEnd (nls t t.length) t.length k ∧ t[lineEnd (nls t t.length) t.length k - 1]? = some 10) ∧
    (¬ k + 1 < lno t t.length → lineEnd (nls t t.length) t.length k = t.length) ∧
    (∀ j, (nls t t.length).getD k 0 ≤ j → j + 1 < lineEnd (nls t t.length) t.length k → t[j]? ≠ some 10) := by
  have hend : lineEnd (nls t t.length) t.length k = if k + 1 < lno t t.length then (nls t t.length).getD (k + 1) 0 else t.length := by unfold lineEnd; rw [nls_length]
  refine ⟨lineEnd_le t k hk, ?_, ?_, ?_⟩
  · intro h
    rw [hend, if_pos h]
    exact ⟨rfl, nls_lt t _ k h, (nls_at t _ (k + 1) h).2.2.2 (by omega) |>.2⟩
  · intro h
    rw [hend, if_neg h]
  · intro j h1 h2 h3
    have hle := lineEnd_le t k hk
    have w1 := lno_within t t.length k j hk h1 (by omega) (by intro h; rw [hend, if_pos h] at h2; omega)
    have w2 := lno_within t t.length k (j + 1) hk (by omega) (by omega) (by intro h; rw [hend, if_pos h] at h2; omega)
    simp only [lno, if_pos h3] at w2
    omega

set_option maxRecDepth 100000 in
set_option maxHeartbeats 4000000 in
theorem placeBack_some (b off cap : Nat) (t : List UInt8) (l c : Int) (w : World) (ht : BytesAt w (.slice (some ⟨b, off, none⟩) t.length cap) t) (hpos : 0 < t.length) (hc : ∀ k (h : k < t.length), w.cell? ⟨b, off + k, none⟩ = some (.int .u8 (t[k].toNat : Int))) (hm : cap ≤ 9223372036854775807) (hlc : t.length ≤ cap) :
    Calls Try.prog 3 #[(.slice (some ⟨b, off, none⟩) t.length cap), .int .i64 l, .int .i64 c] w fun e w' => e = .returned (.bool true) ∧ Below w.heap.size w w' := by
  have hts := Lib.hid ht
  clear ht
  have Hc := Lib.hid hc
  clear hc
  obtain ⟨n, hn⟩ : ∃ n, n = t.length := ⟨_, rfl⟩
  have Hn := Lib.hid hn
  rw [← hn] at hlc hts hpos ⊢
  clear hn
  by_cases hbig : 2000 < n
  · go_enter Try.func3, Try.ntmps3
    go_wp2_with (go_at_call 7; refine (awake_any _).mono ?_; rintro e w1 ⟨rfl, hb1⟩)
    go_ret
    exact ⟨rfl, hb1⟩
  · go_enter Try.func3, Try.ntmps3
    go_wp2_with fail
    refine (awake_any _).mono ?_
    rintro e w1 ⟨rfl, hb1⟩
    go_wp2_with fail
    refine (new_any _ t _ (hts.out.later hb1) (by rw [← Hn.out]; omega)).mono ?_
    rintro e w2 ⟨x, rfl, hx, hidx0, hb2⟩
    have hidx := Lib.hid hidx0
    clear hidx0
    have hb02 := hb1.trans (hb2.mono hb1.size)
    go_wp2
    go_loopw [8] (fun p wr => ∃ k : Nat, k ≤ n + 1 ∧ p = .int .i64 k ∧ Below w2.heap.size w2 wr) (fun p _ => (n + 1) - (intOf p).toNat)
    case atStart => exact ⟨0, by omega, rfl, Below.refl _ _⟩
    case round =>
      obtain ⟨k, hk, rfl, hbr⟩ := hrel
      have hidr := Lib.hid (hidx.out.later hbr)
      by_cases hlt : k ≤ n
      · have Hat := Lib.hid (at_text x t k _ hidr.out (by rw [← Hn.out]; omega) (by rw [← Hn.out]; omega))
        have hlno := lno_mono t k t.length (by rw [← Hn.out]; omega)
        have hpos1 := lno_pos t k
        have hbeg := beg_le t k
        have Hpl := Lib.hid (plc_some t (lno t k : Nat) (k - beg t k + 1 : Nat) k (by rw [← Hn.out]; omega) rfl rfl)
        obtain ⟨ln, hln⟩ : ∃ ln, ln = lno t k := ⟨_, rfl⟩
        obtain ⟨cc, hcc⟩ : ∃ cc, cc = k - beg t k + 1 := ⟨_, rfl⟩
        obtain ⟨LL, hLL⟩ : ∃ LL, LL = (nls t t.length).length := ⟨_, rfl⟩
        rw [← nls_length t t.length, ← hLL] at hlno
        have HLL := Lib.hid hLL
        rw [← hln] at Hat hlno hpos1 Hpl
        rw [← hcc] at Hat Hpl
        clear hln hcc hLL hbeg
        go_wp2_with fail
        refine Hat.out.mono ?_
        rintro e w3 ⟨rfl, hb3⟩
        go_wp2_with fail
        refine (place_text x t _ _ _ (hidr.out.later hb3) (by rw [← Hn.out]; omega)).mono ?_
        rw [Hpl.out]
        rintro e w4 ⟨rfl, hb4⟩
        unfold plcEnd
        have hid4 := Lib.hid ((hidr.out.later hb3).later hb4)
        go_wp2_with fail
        refine (lines_yes x _ _ _ hid4.out).mono ?_
        rw [← HLL.out]
        rintro e w5 ⟨rfl, rfl⟩
        go_wp2
        go_roundw
        case rel => exact ⟨k + 1, by omega, by go_num, (hbr.trans (hb3.mono hbr.size)).trans (hb4.mono (Nat.le_trans hbr.size hb3.size))⟩
        case measure => simp [intOf]; omega
      · go_wp2
        go_loopw [14, 15] (fun a i wq => ∃ j : Nat, j ≤ (nls t t.length).length ∧ i = .int .i64 ((j : Int) + 1) ∧ a = .int .i64 (if j < (nls t t.length).length then (nls t t.length).getD j 0 else n : Nat) ∧ Below w2.heap.size w2 wq) (fun _ i _ => ((nls t t.length).length + 1) - (intOf i).toNat)
        case atStart => exact ⟨0, by omega, by simp, by rw [if_pos (nls_len t _).1, first_zero]; rfl, hbr⟩
        case round =>
          obtain ⟨j, hj, rfl, rfl, hbq⟩ := hrel
          have hidq := Lib.hid (hidx.out.later hbq)
          have hLn := nls_length t t.length
          obtain ⟨LL, hLL⟩ : ∃ LL, LL = (nls t t.length).length := ⟨_, rfl⟩
          have HLL := Lib.hid hLL
          rw [← hLL] at hj hLn ⊢
          have hLLb : LL ≤ n + 1 := by have := (nls_len t t.length).2; have := Hn.out; omega
          clear hLL
          by_cases hjl : j < LL
          · have hf := line_facts t j (by rw [← hLn]; exact hjl)
            have Hln := Lib.hid (line_in x _ _ ((j : Int) + 1) j _ hidq.out (by rw [← HLL.out]; exact hjl) rfl)
            rw [if_pos hjl]
            obtain ⟨f, hff⟩ : ∃ f, f = (nls t t.length).getD j 0 := ⟨_, rfl⟩
            obtain ⟨u, huu⟩ : ∃ u, u = lineEnd (nls t t.length) t.length j := ⟨_, rfl⟩
            rw [← hff, ← huu] at hf Hln
            rw [← hff]
            obtain ⟨⟨hfu, hun⟩, hmore, hlast, hten⟩ := hf
            have Hmore := Lib.hid hmore
            have Hlast := Lib.hid hlast
            have Hten := Lib.hid hten
            have Huu := Lib.hid huu
            have Hff := Lib.hid hff
            clear hmore hlast hten huu hff
            have Hn' := Hn.out
            have HLn := Lib.hid hLn
            rw [← Hn'] at hun
            clear hLn Hn'
            go_wp2_with fail
            refine (lines_yes x _ _ _ hidq.out).mono ?_
            rw [← HLL.out]
            rintro e w5 ⟨rfl, rfl⟩
            go_wp2_with fail
            refine Hln.out.mono ?_
            rintro e w6 ⟨rfl, hb6⟩
            have hid6 := Lib.hid (hidq.out.later hb6)
            have hbq6 := hbq.trans (hb6.mono hbq.size)
            have hnext : (if j + 1 < LL then (nls t t.length).getD (j + 1) 0 else n : Nat) = u := by
              split
              · rename_i h; exact (Hmore.out (by rw [← HLn.out]; exact h)).1.symm
              · rename_i h; rw [Hlast.out (by rw [← HLn.out]; exact h)]; exact Hn.out
            have Hnext := Lib.hid hnext
            clear hnext
            by_cases hjm : j + 1 < LL
            · obtain ⟨hu1, hu2, hu3⟩ := Hmore.out (by rw [← HLn.out]; exact hjm)
              have hul : u - 1 < t.length := by rw [← Hn.out]; omega
              have h10 : t[u - 1] = 10 := by rw [List.getElem?_eq_getElem hul] at hu3; simpa using hu3
              have hcell := cell_later (hb02.trans (hbq6.mono hb02.size)) (Hc.out (u - 1) hul)
              rw [h10] at hcell
              have Hu1 := Lib.hid hu1
              have Hu3 := Lib.hid hu3
              clear hu1 hu3 h10
              have hne : ((u : Int) == f) = false := by simp; omega
              have hjm' : (j : Int) + 1 < LL := by omega
              have hsub : IntKind.i64.wrap ((u : Int) - 1) = (u : Int) - 1 := IntWalk.i64_in _ (by omega)
              go_wp2_with fail
              refine (lines_yes x _ _ _ hid6.out).mono ?_
              rw [← HLL.out]
              rintro e w7 ⟨rfl, rfl⟩
              go_wp2
              go_loop [19] (fun i => ∃ m : Nat, i = .int .i64 m ∧ f ≤ m ∧ m ≤ n) (fun i => n - (intOf i).toNat)
              case atStart => exact ⟨f, rfl, by omega, by omega⟩
              case round =>
                obtain ⟨m, rfl, hfm, hmn⟩ := hrel
                by_cases hmu : m + 1 < u
                · have hml : m < t.length := by rw [← Hn.out]; omega
                  have hcell2 := cell_later (hb02.trans (hbq6.mono hb02.size)) (Hc.out m hml)
                  have hne10 := Hten.out m hfm hmu
                  rw [List.getElem?_eq_getElem hml] at hne10
                  obtain ⟨cb, hcb⟩ : ∃ cb, cb = t[m] := ⟨_, rfl⟩
                  rw [← hcb] at hcell2 hne10
                  clear hcb
                  have hne10' : ((cb.toNat : Int) == 10) = false := by
                    rw [beq_eq_false_iff_ne]; intro h; exact hne10 (by rw [(toNat_ten cb).1 h])
                  clear hne10
                  have hmu' : (m : Int) + 1 < u := by omega
                  go_wp2
                  go_round
                  case rel => exact ⟨m + 1, by go_num, by omega, by omega⟩
                  case measure => simp [intOf]; omega
                · have hmu' : ¬ (m : Int) + 1 < u := by omega
                  go_wp2
                  go_roundw
                  case rel => exact ⟨j + 1, by omega, by go_num, by rw [Hnext.out], hbq6⟩
                  case measure => simp [intOf]; omega
            · have hjm' : ¬ (j : Int) + 1 < LL := by omega
              go_wp2_with fail
              refine (lines_yes x _ _ _ hid6.out).mono ?_
              rw [← HLL.out]
              rintro e w7 ⟨rfl, rfl⟩
              go_wp2
              go_loop [19] (fun i => ∃ m : Nat, i = .int .i64 m ∧ f ≤ m ∧ m ≤ n) (fun i => n - (intOf i).toNat)
              case atStart => exact ⟨f, rfl, by omega, by omega⟩
              case round =>
                obtain ⟨m, rfl, hfm, hmn⟩ := hrel
                by_cases hmu : m + 1 < u
                · have hml : m < t.length := by rw [← Hn.out]; omega
                  have hcell2 := cell_later (hb02.trans (hbq6.mono hb02.size)) (Hc.out m hml)
                  have hne10 := Hten.out m hfm hmu
                  rw [List.getElem?_eq_getElem hml] at hne10
                  obtain ⟨cb, hcb⟩ : ∃ cb, cb = t[m] := ⟨_, rfl⟩
                  rw [← hcb] at hcell2 hne10
                  clear hcb
                  have hne10' : ((cb.toNat : Int) == 10) = false := by
                    rw [beq_eq_false_iff_ne]; intro h; exact hne10 (by rw [(toNat_ten cb).1 h])
                  clear hne10
                  have hmu' : (m : Int) + 1 < u := by omega
                  go_wp2
                  go_round
                  case rel => exact ⟨m + 1, by go_num, by omega, by omega⟩
                  case measure => simp [intOf]; omega
                · have hmu' : ¬ (m : Int) + 1 < u := by omega
                  go_wp2
                  go_roundw
                  case rel => exact ⟨j + 1, by omega, by go_num, by rw [Hnext.out], hbq6⟩
                  case measure => simp [intOf]; omega
          · obtain rfl : j = LL := by omega
            rw [if_neg hjl]
            have hjl' : ¬ (j : Int) + 1 ≤ j := by omega
            go_wp2_with fail
            refine (lines_yes x _ _ _ hidq.out).mono ?_
            rw [← HLL.out]
            rintro e w5 ⟨rfl, rfl⟩
            go_wp2_with fail
            refine (place_text x t _ _ _ hidq.out (by rw [← Hn.out]; omega)).mono ?_
            rintro e w6 ⟨rfl, hb6⟩
            have hid6 := Lib.hid (hidq.out.later hb6)
            have hbq6 := hbq.trans (hb6.mono hbq.size)
            cases hpl : plc t l c with
            | none =>
              clear hpl
              unfold plcEnd
              go_wp2
              go_ret
              exact ⟨rfl, hb02.trans (hbq6.mono hb02.size)⟩
            | some p =>
              have Hp := Lib.hid (plc_some_iff t l c p hpl)
              clear hpl
              unfold plcEnd
              go_wp2_with fail
              refine (at_text x t p _ hid6.out (by rw [← Hn.out]; omega) Hp.out.1).mono ?_
              rw [Hp.out.2.1, Hp.out.2.2]
              rintro e w7 ⟨rfl, hb7⟩
              have hbq7 := hbq6.trans (hb7.mono hbq6.size)
              go_wp2
              go_ret
              exact ⟨rfl, hb02.trans (hbq7.mono hb02.size)⟩

set_option maxRecDepth 100000 in
set_option maxHeartbeats 4000000 in
theorem placeBack_nil (ao : Option Addr) (cap : Nat) (t : List UInt8) (h0 : t.length = 0) (l c : Int) (w : World) (ht : BytesAt w (.slice ao t.length cap) t) (hm : cap ≤ 9223372036854775807) (hlc : t.length ≤ cap) :
    Calls Try.prog 3 #[(.slice ao t.length cap), .int .i64 l, .int .i64 c] w fun e w' => e = .returned (.bool true) ∧ Below w.heap.size w w' := by
  have hts := Lib.hid ht
  clear ht
  obtain ⟨n, hn⟩ : ∃ n, n = t.length := ⟨_, rfl⟩
  have Hn := Lib.hid hn
  rw [← hn] at hlc hts h0 ⊢
  clear hn
  have hn0 : n ≤ 0 := by omega
  clear h0
  by_cases hbig : 2000 < n
  · exfalso; omega
  · go_enter Try.func3, Try.ntmps3
    go_wp2_with fail
    refine (awake_any _).mono ?_
    rintro e w1 ⟨rfl, hb1⟩
    go_wp2_with fail
    refine (new_any _ t _ (hts.out.later hb1) (by rw [← Hn.out]; omega)).mono ?_
    rintro e w2 ⟨x, rfl, hx, hidx0, hb2⟩
    have hidx := Lib.hid hidx0
    clear hidx0
    have hb02 := hb1.trans (hb2.mono hb1.size)
    go_wp2
    go_loopw [8] (fun p wr => ∃ k : Nat, k ≤ n + 1 ∧ p = .int .i64 k ∧ Below w2.heap.size w2 wr) (fun p _ => (n + 1) - (intOf p).toNat)
    case atStart => exact ⟨0, by omega, rfl, Below.refl _ _⟩
    case round =>
      obtain ⟨k, hk, rfl, hbr⟩ := hrel
      have hidr := Lib.hid (hidx.out.later hbr)
      by_cases hlt : k ≤ n
      · have Hat := Lib.hid (at_text x t k _ hidr.out (by rw [← Hn.out]; omega) (by rw [← Hn.out]; omega))
        have hlno := lno_mono t k t.length (by rw [← Hn.out]; omega)
        have hpos1 := lno_pos t k
        have hbeg := beg_le t k
        have Hpl := Lib.hid (plc_some t (lno t k : Nat) (k - beg t k + 1 : Nat) k (by rw [← Hn.out]; omega) rfl rfl)
        obtain ⟨ln, hln⟩ : ∃ ln, ln = lno t k := ⟨_, rfl⟩
        obtain ⟨cc, hcc⟩ : ∃ cc, cc = k - beg t k + 1 := ⟨_, rfl⟩
        obtain ⟨LL, hLL⟩ : ∃ LL, LL = (nls t t.length).length := ⟨_, rfl⟩
        rw [← nls_length t t.length, ← hLL] at hlno
        have HLL := Lib.hid hLL
        rw [← hln] at Hat hlno hpos1 Hpl
        rw [← hcc] at Hat Hpl
        clear hln hcc hLL hbeg
        go_wp2_with fail
        refine Hat.out.mono ?_
        rintro e w3 ⟨rfl, hb3⟩
        go_wp2_with fail
        refine (place_text x t _ _ _ (hidr.out.later hb3) (by rw [← Hn.out]; omega)).mono ?_
        rw [Hpl.out]
        rintro e w4 ⟨rfl, hb4⟩
        unfold plcEnd
        have hid4 := Lib.hid ((hidr.out.later hb3).later hb4)
        go_wp2_with fail
        refine (lines_yes x _ _ _ hid4.out).mono ?_
        rw [← HLL.out]
        rintro e w5 ⟨rfl, rfl⟩
        go_wp2
        go_roundw
        case rel => exact ⟨k + 1, by omega, by go_num, (hbr.trans (hb3.mono hbr.size)).trans (hb4.mono (Nat.le_trans hbr.size hb3.size))⟩
        case measure => simp [intOf]; omega
      · go_wp2
        go_loopw [14, 15] (fun a i wq => ∃ j : Nat, j ≤ (nls t t.length).length ∧ i = .int .i64 ((j : Int) + 1) ∧ a = .int .i64 (if j < (nls t t.length).length then (nls t t.length).getD j 0 else n : Nat) ∧ Below w2.heap.size w2 wq) (fun _ i _ => ((nls t t.length).length + 1) - (intOf i).toNat)
        case atStart => exact ⟨0, by omega, by simp, by rw [if_pos (nls_len t _).1, first_zero]; rfl, hbr⟩
        case round =>
          obtain ⟨j, hj, rfl, rfl, hbq⟩ := hrel
          have hidq := Lib.hid (hidx.out.later hbq)
          have hLn := nls_length t t.length
          obtain ⟨LL, hLL⟩ : ∃ LL, LL = (nls t t.length).length := ⟨_, rfl⟩
          have HLL := Lib.hid hLL
          rw [← hLL] at hj hLn ⊢
          have hLLb : LL ≤ n + 1 := by have := (nls_len t t.length).2; have := Hn.out; omega
          clear hLL
          by_cases hjl : j < LL
          · have hf := line_facts t j (by rw [← hLn]; exact hjl)
            have Hln := Lib.hid (line_in x _ _ ((j : Int) + 1) j _ hidq.out (by rw [← HLL.out]; exact hjl) rfl)
            rw [if_pos hjl]
            obtain ⟨f, hff⟩ : ∃ f, f = (nls t t.length).getD j 0 := ⟨_, rfl⟩
            obtain ⟨u, huu⟩ : ∃ u, u = lineEnd (nls t t.length) t.length j := ⟨_, rfl⟩
            rw [← hff, ← huu] at hf Hln
            rw [← hff]
            obtain ⟨⟨hfu, hun⟩, hmore, hlast, hten⟩ := hf
            have Hmore := Lib.hid hmore
            have Hlast := Lib.hid hlast
            have Hten := Lib.hid hten
            have Huu := Lib.hid huu
            have Hff := Lib.hid hff
            clear hmore hlast hten huu hff
            have Hn' := Hn.out
            have HLn := Lib.hid hLn
            rw [← Hn'] at hun
            clear hLn Hn'
            go_wp2_with fail
            refine (lines_yes x _ _ _ hidq.out).mono ?_
            rw [← HLL.out]
            rintro e w5 ⟨rfl, rfl⟩
            go_wp2_with fail
            refine Hln.out.mono ?_
            rintro e w6 ⟨rfl, hb6⟩
            have hid6 := Lib.hid (hidq.out.later hb6)
            have hbq6 := hbq.trans (hb6.mono hbq.size)
            have hnext : (if j + 1 < LL then (nls t t.length).getD (j + 1) 0 else n : Nat) = u := by
              split
              · rename_i h; exact (Hmore.out (by rw [← HLn.out]; exact h)).1.symm
              · rename_i h; rw [Hlast.out (by rw [← HLn.out]; exact h)]; exact Hn.out
            have Hnext := Lib.hid hnext
            clear hnext
            by_cases hjm : j + 1 < LL
            · obtain ⟨hu1, hu2, hu3⟩ := Hmore.out (by rw [← HLn.out]; exact hjm)
              exfalso; omega
            · have hjm' : ¬ (j : Int) + 1 < LL := by omega
              go_wp2_with fail
              refine (lines_yes x _ _ _ hid6.out).mono ?_
              rw [← HLL.out]
              rintro e w7 ⟨rfl, rfl⟩
              go_wp2
              go_loop [19] (fun i => ∃ m : Nat, i = .int .i64 m ∧ f ≤ m ∧ m ≤ n) (fun i => n - (intOf i).toNat)
              case atStart => exact ⟨f, rfl, by omega, by omega⟩
              case round =>
                obtain ⟨m, rfl, hfm, hmn⟩ := hrel
                by_cases hmu : m + 1 < u
                · exfalso; omega
                · have hmu' : ¬ (m : Int) + 1 < u := by omega
                  go_wp2
                  go_roundw
                  case rel => exact ⟨j + 1, by omega, by go_num, by rw [Hnext.out], hbq6⟩
                  case measure => simp [intOf]; omega
          · obtain rfl : j = LL := by omega
            rw [if_neg hjl]
            have hjl' : ¬ (j : Int) + 1 ≤ j := by omega
            go_wp2_with fail
            refine (lines_yes x _ _ _ hidq.out).mono ?_
            rw [← HLL.out]
            rintro e w5 ⟨rfl, rfl⟩
            go_wp2_with fail
            refine (place_text x t _ _ _ hidq.out (by rw [← Hn.out]; omega)).mono ?_
            rintro e w6 ⟨rfl, hb6⟩
            have hid6 := Lib.hid (hidq.out.later hb6)
            have hbq6 := hbq.trans (hb6.mono hbq.size)
            cases hpl : plc t l c with
            | none =>
              clear hpl
              unfold plcEnd
              go_wp2
              go_ret
              exact ⟨rfl, hb02.trans (hbq6.mono hb02.size)⟩
            | some p =>
              have Hp := Lib.hid (plc_some_iff t l c p hpl)
              clear hpl
              unfold plcEnd
              go_wp2_with fail
              refine (at_text x t p _ hid6.out (by rw [← Hn.out]; omega) Hp.out.1).mono ?_
              rw [Hp.out.2.1, Hp.out.2.2]
              rintro e w7 ⟨rfl, hb7⟩
              have hbq7 := hbq6.trans (hb7.mono hbq6.size)
              go_wp2
              go_ret
              exact ⟨rfl, hb02.trans (hbq7.mono hb02.size)⟩

theorem placeBack_any (v : Value) (t : List UInt8) (l c : Int) (w : World) (ht : BytesAt w v t) :
    Calls Try.prog 3 #[v, .int .i64 l, .int .i64 c] w fun e w' => e = .returned (.bool true) ∧ Below w.heap.size w w' := by
  have ht' := ht
  obtain ⟨ao, b, off, cap, rfl, hlc, hm, _, hao, hc⟩ := ht
  rcases Nat.eq_zero_or_pos t.length with h0 | h0
  · have := placeBack_nil ao cap t h0 l c w ht' (by unfold maxLen at hm; omega) hlc
    exact this
  · obtain rfl := hao h0
    exact placeBack_some b off cap t l c w ht' h0 hc (by unfold maxLen at hm; omega) hlc

end Go.Proofs.Ythapnknhodjepaa
