/-
  Chapter far: the chapter's example.
-/
import Derived.Test.YtfhgmnlhmfnckaaFarL
import Derived.Lib.SlBytesConst
namespace Go.Proofs.Ytfhgmnlhmfnckaa
open Go.RowKit Go.Lib

def abd : List UInt8 := [97, 98, 100]
theorem abd_bytes (w : World) : BytesAt (w.alloc (.cells #[.int .u8 97, .int .u8 98, .int .u8 100] 5 (3, 4))) (.slice (some ⟨w.heap.size, 0, none⟩) 3 3) abd := by
  refine ⟨_, w.heap.size, 0, 3, rfl, by decide, by unfold maxLen; omega, (fun h => by cases h), fun _ => rfl, fun k hk => ?_⟩
  have hk' : k < 3 := hk
  rw [cell_alloc_new]
  rcases (by omega : k = 0 ∨ k = 1 ∨ k = 2) with rfl | rfl | rfl <;> rfl
theorem clOr_clOf (a b : List UInt8) : clOr (clOf a) (clOf b) = clOf (a ++ b) := by funext x; simp [clOr, clOf]
abbrev pFresh : Part := (-1, clNone)
theorem aw1 : textB abd [97, 98, 99] 0 = false := by decide
theorem aw1p : textP abd pFresh [97, 98, 99] 0 = (2, clOf [99]) := rfl
theorem aw2 : thereB abd (clOf [120, 121]) 2 = false := by decide
theorem aw2p : askA abd (2, clOf [99]) (clOf [120, 121]) 2 = (2, clOf [99, 120, 121]) := by
  rw [askA_miss (by decide) aw2]
  show (2, clOr (clOf [99]) (clOf [120, 121])) = _
  rw [clOr_clOf]
  rfl
theorem aw3 : thereB abd (clNot clNone) 3 = false := by decide
theorem aw3p : askA abd (2, clOf [99, 120, 121]) (clNot clNone) 3 = (3, clNot clNone) := by
  rw [askA_miss (by decide) aw3]
  rfl
theorem aw4 : textB abd [98] 0 = false := by decide
theorem aw4p : textP abd pFresh [98] 0 = (0, clOf [98]) := rfl
theorem aw5p : endP (3, clNot clNone) (0, clOf [98]) = (3, clNot clNone) := rfl
theorem aw6 : textB abd [97, 98] 0 = true := by decide
theorem aw6p : textP abd (3, clNot clNone) [97, 98] 0 = (3, clNot clNone) := rfl
theorem aw7 : thereB abd (clNot clNone) 2 = true := by decide
theorem aw7p : askA abd (3, clNot clNone) (clNot clNone) 2 = (3, clNot clNone) := askA_hit aw7

set_option maxRecDepth 100000 in
set_option maxHeartbeats 4000000 in
theorem awake_any (w : World) : Calls Try.prog 8 #[] w fun e w' => e = .returned (.bool true) ∧ Below w.heap.size w w' := by
  have kc := fun (w : World) (C : Array Value) (n c : Nat) => Lib.run_convert_bytes_const (P := Try.prog) w 22 5 C n c Try.underlying22 Try.underlying5
  have hneq := eqv_neq
  have hgrd := eqv_guard
  have hself := clEq_self
  have hs := Lib.hid (abd_bytes w)
  go_enter Try.func8, Try.ntmps8
  go_wp2_with fail
  refine (far_New _ _ abd hs.out (by decide)).mono ?_
  rintro e w1 ⟨a, rfl, hF, hb⟩
  have hK : Keeps (fun k => w.heap.size ≤ k) w w1 := Keeps.ofBelow (((Below.refl w.heap.size w).alloc (Nat.le_refl _) _).trans (hb.mono (by simp)))
  have hH : ∀ k, ((w.alloc (.cells #[.int .u8 97, .int .u8 98, .int .u8 100] 5 (3, 4))).heap.size ≤ k ∧ k < w1.heap.size) → w.heap.size ≤ k := fun k hk => by have := hk.1; simp at this; omega
  generalize hHd : (fun k => (w.alloc (.cells #[.int .u8 97, .int .u8 98, .int .u8 100] 5 (3, 4))).heap.size ≤ k ∧ k < w1.heap.size) = H at hF
  have hH1 : ∀ k, H k → w.heap.size ≤ k := fun k hk => by rw [← hHd] at hk; exact hH k hk
  have HK1 := Lib.hid hK
  have HF1 := Lib.hid hF
  have HH := Lib.hid hH1
  clear hK hF hH hH1 hHd hs hb
  go_wp2_with fail
  refine (far_Text w1 ⟨#[97, 98, 99]⟩ 0 HF1.out (by decide) (by decide)).mono ?_
  rintro e w2 ⟨rfl, hF, hK⟩
  have hF' : Far H w2 a ([] ++ [(2, clOf [99])]) abd := by rw [← aw1p]; exact hF
  have HF2 := Lib.hid hF'
  have HK2 := Lib.hid (HK1.out.trans (hK.mono (fun k _ hk => HH.out k hk)))
  clear hF hF' hK
  have h1 := aw1
  go_wp2_with fail
  refine (far_Far w2 HF2.out).mono ?_
  rintro e w3 ⟨rfl, hb⟩
  have HF3 := Lib.hid (HF2.out.later hb)
  have HK3 := Lib.hid (HK2.out.trans (Keeps.ofBelow (hb.mono HK2.out.size)))
  clear hb
  go_wp2_with fail
  refine (far_Hoped w3 HF3.out).mono ?_
  rintro e w4 ⟨rfl, hb⟩
  have HF4 := Lib.hid (HF3.out.later hb)
  have HK4 := Lib.hid (HK3.out.trans (Keeps.ofBelow (hb.mono HK3.out.size)))
  clear hb
  go_wp2_with fail
  refine (law_of w4 ⟨#[99]⟩ (by decide)).mono ?_
  rintro e w5 ⟨rfl, hb⟩
  have HF5 := Lib.hid (HF4.out.later hb)
  have HK5 := Lib.hid (HK4.out.trans (Keeps.ofBelow (hb.mono HK4.out.size)))
  clear hb
  go_wp2_with fail
  refine (law_of w5 ⟨#[120, 121]⟩ (by decide)).mono ?_
  rintro e w6 ⟨rfl, hb⟩
  have HF6 := Lib.hid (HF5.out.later hb)
  have HK6 := Lib.hid (HK5.out.trans (Keeps.ofBelow (hb.mono HK5.out.size)))
  clear hb
  go_wp2_with fail
  refine (far_Set w6 (clOf [120, 121]) 2 HF6.out).mono ?_
  rintro e w7 ⟨rfl, hF, hK⟩
  have hF' : Far H w7 a ([] ++ [(2, clOf [99, 120, 121])]) abd := by rw [← aw2p]; exact hF
  have HF7 := Lib.hid hF'
  have HK7 := Lib.hid (HK6.out.trans (hK.mono (fun k _ hk => HH.out k hk)))
  clear hF hF' hK
  have h2 := aw2
  go_wp2_with fail
  refine (far_Hoped w7 HF7.out).mono ?_
  rintro e w8 ⟨rfl, hb⟩
  have HF8 := Lib.hid (HF7.out.later hb)
  have HK8 := Lib.hid (HK7.out.trans (Keeps.ofBelow (hb.mono HK7.out.size)))
  clear hb
  go_wp2_with fail
  refine (law_of w8 ⟨#[99, 120, 121]⟩ (by decide)).mono ?_
  rintro e w9 ⟨rfl, hb⟩
  have HF9 := Lib.hid (HF8.out.later hb)
  have HK9 := Lib.hid (HK8.out.trans (Keeps.ofBelow (hb.mono HK8.out.size)))
  clear hb
  go_wp2_with fail
  refine (far_Any w9 3 HF9.out).mono ?_
  rintro e w10 ⟨rfl, hF, hK⟩
  have hF' : Far H w10 a ([] ++ [(3, clNot clNone)]) abd := by rw [← aw3p]; exact hF
  have HF10 := Lib.hid hF'
  have HK10 := Lib.hid (HK9.out.trans (hK.mono (fun k _ hk => HH.out k hk)))
  clear hF hF' hK
  have h3 := aw3
  go_wp2_with fail
  refine (far_Far w10 HF10.out).mono ?_
  rintro e w11 ⟨rfl, hb⟩
  have HF11 := Lib.hid (HF10.out.later hb)
  have HK11 := Lib.hid (HK10.out.trans (Keeps.ofBelow (hb.mono HK10.out.size)))
  clear hb
  go_wp2_with fail
  refine (far_Hoped w11 HF11.out).mono ?_
  rintro e w12 ⟨rfl, hb⟩
  have HF12 := Lib.hid (HF11.out.later hb)
  have HK12 := Lib.hid (HK11.out.trans (Keeps.ofBelow (hb.mono HK11.out.size)))
  clear hb
  go_wp2_with fail
  refine (law_every w12).mono ?_
  rintro e w13 ⟨rfl, hb⟩
  have HF13 := Lib.hid (HF12.out.later hb)
  have HK13 := Lib.hid (HK12.out.trans (Keeps.ofBelow (hb.mono HK12.out.size)))
  clear hb
  go_wp2_with fail
  refine (far_Begin w13 HF13.out (by decide)).mono ?_
  rintro e w14 ⟨rfl, hF, hK⟩
  obtain ⟨H2, hH2⟩ : ∃ H2, H2 = AndNew H w13 w14 := ⟨_, rfl⟩
  rw [← hH2] at hF
  have HH2 : Hid (∀ k, H2 k → w.heap.size ≤ k) := Lib.hid (fun k hk => by rw [hH2] at hk; exact hk.elim (HH.out k) (fun h => by have := HK13.out.size; omega))
  have HF14 := Lib.hid hF
  have HK14 := Lib.hid (HK13.out.trans (hK.mono (fun k _ hk => HH.out k hk)))
  clear hF hK hH2
  go_wp2_with fail
  refine (far_Text w14 ⟨#[98]⟩ 0 HF14.out (by decide) (by decide)).mono ?_
  rintro e w15 ⟨rfl, hF, hK⟩
  have hF' : Far H2 w15 a (([] ++ [((3, clNot clNone) : Part)]) ++ [(0, clOf [98])]) abd := by rw [← aw4p]; exact hF
  have HF15 := Lib.hid hF'
  have HK15 := Lib.hid (HK14.out.trans (hK.mono (fun k _ hk => HH2.out k hk)))
  clear hF hF' hK
  have h4 := aw4
  go_wp2_with fail
  refine (far_Far w15 HF15.out).mono ?_
  rintro e w16 ⟨rfl, hb⟩
  have HF16 := Lib.hid (HF15.out.later hb)
  have HK16 := Lib.hid (HK15.out.trans (Keeps.ofBelow (hb.mono HK15.out.size)))
  clear hb
  go_wp2_with fail
  refine (far_End w16 HF16.out (by decide) (.inr (by decide))).mono ?_
  rintro e w17 ⟨rfl, hF, hK⟩
  have hF' : Far H2 w17 a ([] ++ [(3, clNot clNone)]) abd := by rw [← aw5p]; exact hF
  have HF17 := Lib.hid hF'
  have HK17 := Lib.hid (HK16.out.trans (hK.mono (fun k _ hk => HH2.out k hk)))
  clear hF hF' hK
  go_wp2_with fail
  refine (far_Far w17 HF17.out).mono ?_
  rintro e w18 ⟨rfl, hb⟩
  have HF18 := Lib.hid (HF17.out.later hb)
  have HK18 := Lib.hid (HK17.out.trans (Keeps.ofBelow (hb.mono HK17.out.size)))
  clear hb
  go_wp2_with fail
  refine (far_Text w18 ⟨#[97, 98]⟩ 0 HF18.out (by decide) (by decide)).mono ?_
  rintro e w19 ⟨rfl, hF, hK⟩
  have hF' : Far H2 w19 a ([] ++ [(3, clNot clNone)]) abd := by rw [← aw6p]; exact hF
  have HF19 := Lib.hid hF'
  have HK19 := Lib.hid (HK18.out.trans (hK.mono (fun k _ hk => HH2.out k hk)))
  clear hF hF' hK
  have h6 := aw6
  go_wp2_with fail
  refine (far_Any w19 2 HF19.out).mono ?_
  rintro e w20 ⟨rfl, hF, hK⟩
  have hF' : Far H2 w20 a ([] ++ [(3, clNot clNone)]) abd := by rw [← aw7p]; exact hF
  have HF20 := Lib.hid hF'
  have HK20 := Lib.hid (HK19.out.trans (hK.mono (fun k _ hk => HH2.out k hk)))
  clear hF hF' hK
  have h7 := aw7
  go_wp2
  go_ret
  exact ⟨rfl, HK20.out.below (Nat.le_refl _) (fun k hk => hk)⟩
end Go.Proofs.Ytfhgmnlhmfnckaa
