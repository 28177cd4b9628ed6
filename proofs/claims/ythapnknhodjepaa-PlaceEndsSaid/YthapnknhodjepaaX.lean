/-
  Place: PlaceEnds: the closed statement.
-/
import Derived.Test.YthapnknhodjepaaW
import Derived.Deep.RegionHeld3
namespace Go.Proofs.Ythapnknhodjepaa
open Go.RowKit

theorem conv_bytes (w : World) (s : ByteArray) (hl : s.size ≤ 1000) (c : Nat) (hc : s.size ≤ c) (hm : c ≤ maxLen) (fr : Nat × Nat) :
    BytesAt ((w.alloc (.cells (bytesRow s c) 5 fr)).drew) (.slice (some ⟨w.heap.size, 0, none⟩) s.size c) s.data.toList := by
  refine ⟨_, w.heap.size, 0, c, by simp, by simpa using hc, hm, fun h => by simp at h, fun _ => rfl, fun k hk => ?_⟩
  simp only [Nat.zero_add]
  have : ((w.alloc (.cells (bytesRow s c) 5 fr)).drew).cell? ⟨w.heap.size, k, none⟩ = (w.alloc (.cells (bytesRow s c) 5 fr)).cell? ⟨w.heap.size, k, none⟩ := rfl
  rw [this, cell_alloc_new]
  simp at hk
  simp [bytesRow, hk, Array.getElem?_append]

def ssL : List ByteArray := [⟨#[]⟩, ⟨#[10]⟩, ⟨#[97]⟩, ⟨#[97, 10]⟩, ⟨#[10, 97]⟩, ⟨#[10, 10]⟩, ⟨#[97, 98, 10, 99]⟩, ⟨#[97, 98, 10, 10, 99, 100, 10]⟩, ⟨#[13, 10, 0, 10]⟩]
def zsL : List Int := [-9223372036854775808, -1, 0, 9223372036854775807]
theorem ssL_size : ∀ s ∈ ssL, s.size ≤ 10 := by decide

/-- the two tables of the law. -/
structure Strs (B : Nat) (w : World) : Prop where
  s : ∀ i (h : i < 9), w.cell? ⟨B, i, none⟩ = some (.string (ssL[i]'h))
  z : ∀ i (h : i < 4), w.cell? ⟨B + 1, i, none⟩ = some (.int .i64 (zsL[i]'h))
theorem Strs.later {B : Nat} {w w' : World} (h : Strs B w) (hb : Below w.heap.size w w') : Strs B w' :=
  ⟨fun i hi => cell_later hb (h.s i hi), fun i hi => cell_later hb (h.z i hi)⟩

/-- no index, and one without lines. -/
def Nones (N : Nat) (w : World) : Prop := w.cell? ⟨N + 1, 0, none⟩ = some (.pointer none) ∧ w.cell? ⟨N + 1, 1, none⟩ = some (.pointer (some ⟨N, 0, none⟩)) ∧ w.cell? ⟨N, 0, none⟩ = some (.slice none 0 0)
theorem nones_later {N : Nat} {w w' : World} (h : Nones N w) (hb : Below w.heap.size w w') : Nones N w' := ⟨cell_later hb h.1, cell_later hb h.2.1, cell_later hb h.2.2⟩
theorem noIdx_later {v : Value} {w w' : World} (h : NoIdx w v) (hb : Below w.heap.size w w') : NoIdx w' v := by
  rcases h with rfl | ⟨b, rfl, h⟩
  · exact .inl rfl
  · exact .inr ⟨b, rfl, cell_later hb h⟩
theorem nones_start (w : World) : Nones w.heap.size (((w.alloc (Obj.cells #[Value.slice none 0 0, Value.int IntKind.i64 0] 42)).alloc (Obj.cells #[Value.pointer none, Value.pointer (some { block := w.heap.size, off := 0 })] 24))) := by
  have h := fun k => cell_alloc_new (w.alloc (Obj.cells #[Value.slice none 0 0, Value.int IntKind.i64 0] 42)) #[Value.pointer none, Value.pointer (some { block := w.heap.size, off := 0 })] 24 (0, 0) k
  simp only [World.size_alloc] at h
  refine ⟨by rw [h]; rfl, by rw [h]; rfl, ?_⟩
  rw [World.cell?_alloc_old _ _ _ (by simp), cell_alloc_new]
  rfl
theorem nones_get {N : Nat} {w : World} (h : Nones N w) (k : Nat) (hk : k < 2) : ∃ v, w.cell? ⟨N + 1, k, none⟩ = some v ∧ NoIdx w v := by
  rcases (show k = 0 ∨ k = 1 by omega) with rfl | rfl
  · exact ⟨_, h.1, .inl rfl⟩
  · exact ⟨_, h.2.1, .inr ⟨_, rfl, h.2.2⟩⟩

theorem grown_ok (w : World) (s : ByteArray) (hs : s.size ≤ 10) : s.size ≤ grownCap w s.size 0 5 ∧ grownCap w s.size 0 5 ≤ maxLen :=
  ⟨grownCap_ge w _ _ _, grownCap_le_maxLen w _ _ _ (by unfold maxLen; omega)⟩

set_option maxRecDepth 100000 in
set_option maxHeartbeats 4000000 in
theorem placeEnds_any (w : World) :
    Calls Try.prog 5 #[] w fun e w' => e = .returned (.bool true) ∧ Below w.heap.size w w' := by
  have kb := fun (w : World) (s : ByteArray) => run_bytes_of_string (P := Try.prog) w 9 22 5 s Try.underlying9 Try.underlying22 Try.underlying5
  go_enter Try.func5, Try.ntmps5
  go_wp2
  go_loopw [3] (fun i wr => ∃ k : Nat, k ≤ 9 ∧ i = .int .i64 k ∧ Strs w.heap.size wr ∧ Below w.heap.size w wr) (fun i _ => 9 - (intOf i).toNat)
  case atStart =>
    refine ⟨0, by omega, rfl, ⟨fun i hi => ?_, fun i hi => ?_⟩, ((Below.refl _ _).alloc (Nat.le_refl _) _).alloc (by simp) _⟩
    · rw [World.cell?_alloc_old _ _ _ (by simp), cell_alloc_new]
      rcases (show i = 0 ∨ i = 1 ∨ i = 2 ∨ i = 3 ∨ i = 4 ∨ i = 5 ∨ i = 6 ∨ i = 7 ∨ i = 8 by omega) with rfl | rfl | rfl | rfl | rfl | rfl | rfl | rfl | rfl <;> rfl
    · have := cell_alloc_new (w.alloc (Obj.cells #[Value.string ⟨#[]⟩, Value.string ⟨#[10]⟩, Value.string ⟨#[97]⟩, Value.string ⟨#[97, 10]⟩, Value.string ⟨#[10, 97]⟩, Value.string ⟨#[10, 10]⟩, Value.string ⟨#[97, 98, 10, 99]⟩, Value.string ⟨#[97, 98, 10, 10, 99, 100, 10]⟩, Value.string ⟨#[13, 10, 0, 10]⟩] 9)) #[Value.int IntKind.i64 (-9223372036854775808), Value.int IntKind.i64 (-1), Value.int IntKind.i64 0, Value.int IntKind.i64 9223372036854775807] 3 (0, 0) i
      simp only [World.size_alloc] at this
      rw [this]
      rcases (show i = 0 ∨ i = 1 ∨ i = 2 ∨ i = 3 by omega) with rfl | rfl | rfl | rfl <;> rfl
  case round =>
    obtain ⟨k, hk, rfl, hstr, hbel⟩ := hrel
    have Hstr := Lib.hid hstr
    clear hstr
    by_cases hlt : k < 9
    · have hcell := Hstr.out.s k hlt
      obtain ⟨s, hs⟩ : ∃ s, s = ssL[k]'hlt := ⟨_, rfl⟩
      rw [← hs] at hcell
      have hsz : s.size ≤ 10 := by rw [hs]; exact ssL_size _ (List.getElem_mem _)
      have Hs := Lib.hid hs
      clear hs
      go_wp2_with fail
      refine (new_any _ s.data.toList _ (conv_bytes wr s (by omega) _ (grown_ok wr s hsz).1 (grown_ok wr s hsz).2 _) (by simp; omega)).mono ?_
      rintro e w5 ⟨x, rfl, hx, hi5, hb5⟩
      have h5 : Below wr.heap.size wr w5 := (((Below.refl wr.heap.size wr).alloc (Nat.le_refl _) _).drew).trans (hb5.mono (by simp))
      have Hstr5 := Lib.hid (Hstr.out.later h5)
      have hbel5 := hbel.trans (h5.mono hbel.size)
      have Hi5 := Lib.hid hi5
      clear hi5 hcell
      obtain ⟨wo, rfl⟩ : ∃ wo : World, wo = wr := ⟨_, rfl⟩
      have tl : ∀ (wq : World) (p l c : Int), Below w5.heap.size w5 wq → Calls Try.prog 16 #[.pointer (some ⟨x, 0, none⟩), .slice (some ⟨wq.heap.size, 0, none⟩) s.size (grownCap wq s.size 0 5), .int .i64 p, .int .i64 l, .int .i64 c] ((wq.alloc (.cells (bytesRow s (grownCap wq s.size 0 5)) 5 ((bytesRow s (grownCap wq s.size 0 5)).size, (bytesRow s (grownCap wq s.size 0 5)).size + 1))).drew) fun e w' => e = .returned (.bool true) ∧ Below wq.heap.size wq w' := by
        intro wq p l c hb
        have hgo := grown_ok wq s hsz
        have hbb : Below wq.heap.size wq ((wq.alloc (.cells (bytesRow s (grownCap wq s.size 0 5)) 5 ((bytesRow s (grownCap wq s.size 0 5)).size, (bytesRow s (grownCap wq s.size 0 5)).size + 1))).drew) := ((Below.refl _ _).alloc (Nat.le_refl _) _).drew
        refine (tells_any x _ s.data.toList p l c _ ((Hi5.out.later hb).later hbb) (conv_bytes wq s (by omega) _ hgo.1 hgo.2 _) (by simp; omega)).mono ?_
        rintro e w' ⟨rfl, hb'⟩
        exact ⟨rfl, hbb.trans (hb'.mono hbb.size)⟩
      have Htl := Lib.hid tl
      clear tl
      go_wp2
      go_loopw [5] (fun i wq => ∃ a : Nat, a ≤ 12 ∧ i = .int .i64 ((a : Int) - 1) ∧ Below w5.heap.size w5 wq) (fun i _ => 12 - (intOf i + 1).toNat)
      case atStart => exact ⟨0, by omega, rfl, Below.refl _ _⟩
      case round =>
        obtain ⟨a, ha, rfl, hba⟩ := hrel
        by_cases hal : a < 12
        · have hal' : (a : Int) - 1 < 11 := by omega
          obtain ⟨wa, rfl⟩ : ∃ wa : World, wa = wr := ⟨_, rfl⟩
          go_wp2
          go_loopw [6] (fun i wq => ∃ b : Nat, b ≤ 7 ∧ i = .int .i64 ((b : Int) - 1) ∧ Below w5.heap.size w5 wq) (fun i _ => 7 - (intOf i + 1).toNat)
          case atStart => exact ⟨0, by omega, rfl, hba⟩
          case round =>
            obtain ⟨b, hb, rfl, hbb⟩ := hrel
            by_cases hbl : b < 7
            · have hbl' : (b : Int) - 1 < 6 := by omega
              have hcell := (Hstr5.out.later hbb).s k hlt
              rw [← Hs.out] at hcell
              go_wp2_with fail
              refine (Htl.out wr _ _ _ hbb).mono ?_
              rintro e w6 ⟨rfl, hb6⟩
              go_wp2
              go_roundw
              case rel => exact ⟨b + 1, by omega, by go_num, hbb.trans (hb6.mono hbb.size)⟩
              case measure => simp [intOf]; omega
            · have hbl' : ¬ (b : Int) - 1 < 6 := by omega
              go_wp2
              go_roundw
              case rel => exact ⟨a + 1, by omega, by go_num, hbb⟩
              case measure => simp [intOf]; omega
        · have hal' : ¬ (a : Int) - 1 < 11 := by omega
          go_wp2
          go_loopw [7] (fun i wq => ∃ a : Nat, a ≤ 4 ∧ i = .int .i64 (a : Int) ∧ Below w5.heap.size w5 wq) (fun i _ => 4 - (intOf i).toNat)
          case atStart => exact ⟨0, by omega, rfl, hba⟩
          case round =>
            obtain ⟨b, hb, rfl, hbb⟩ := hrel
            by_cases hbl : b < 4
            · have hbl' : (b : Int) < 4 := by omega
              have hcell := (Hstr5.out.later hbb).s k hlt
              rw [← Hs.out] at hcell
              have hcell2 := (Hstr5.out.later hbb).z b hbl
              obtain ⟨z, hz⟩ : ∃ z, z = zsL[b]'hbl := ⟨_, rfl⟩
              rw [← hz] at hcell2
              have Hz := Lib.hid hz
              clear hz
              have keep3 : ∀ wq, Below wr.heap.size wr wq → (wq.cell? ⟨w.heap.size, k, none⟩ = some (.string s) ∧ wq.cell? ⟨w.heap.size + 1, b, none⟩ = some (.int .i64 z) ∧ Below wr.heap.size wr wq) := fun wq h => ⟨cell_later h hcell, cell_later h hcell2, h⟩
              have K3 := Lib.hid keep3
              clear keep3
              go_wp2
              refine wp_region_held_drew (S := (fun wq => wq.cell? ⟨w.heap.size, k, none⟩ = some (.string s) ∧ wq.cell? ⟨w.heap.size + 1, b, none⟩ = some (.int .i64 z) ∧ Below wr.heap.size wr wq)) (by kernel_rfl) ?hsA (fun hHeld => ?_)
              case hsA => exact K3.out _ (Below.refl _ _).drew
              refine wpAnyH_take (i := 0) (oi := ⟨_, _, _, _, _, _⟩) (v := ?vA0) rfl (by kernel_rfl) (by kernel_rfl) (by kernel_rfl) (fun _ _ _ h => h) (Or.inl ⟨by rfl, ?yA0⟩) (by assumption) ?_
              case yA0 => (intro wS hSw; (try dsimp only at hSw); go_simp; try with_reducible rfl)
              simp only [Act.put, List.setIfInBounds_toArray, List.set_cons_zero, List.set_cons_succ]
              refine wpAnyH_take (i := 1) (oi := ⟨_, _, _, _, _, _⟩) (v := ?vA1) rfl (by kernel_rfl) (by kernel_rfl) (by kernel_rfl) (fun _ _ _ h => h) (Or.inl ⟨by rfl, ?yA1⟩) (by assumption) ?_
              case yA1 => (intro wS hSw; (try dsimp only at hSw); go_simp; try with_reducible rfl)
              simp only [Act.put, List.setIfInBounds_toArray, List.set_cons_zero, List.set_cons_succ]
              refine wpAnyH_take (i := 2) (oi := ⟨_, _, _, _, _, _⟩) (v := ?vA2) rfl (by kernel_rfl) (by kernel_rfl) (by kernel_rfl) (fun _ _ _ h => h) (Or.inl ⟨by rfl, ?yA2⟩) (by assumption) ?_
              case yA2 => (intro wS hSw; (try dsimp only at hSw); go_simp; try with_reducible rfl)
              simp only [Act.put, List.setIfInBounds_toArray, List.set_cons_zero, List.set_cons_succ]
              refine wpAnyH_take (i := 3) (oi := ⟨_, _, _, _, _, _⟩) (v := ?vA3) rfl (by kernel_rfl) (by kernel_rfl) (by kernel_rfl) (fun _ _ _ h => h) (Or.inl ⟨by rfl, ?yA3⟩) (by assumption) ?_
              case yA3 => (intro wS hSw; (try dsimp only at hSw); go_simp; try with_reducible rfl)
              simp only [Act.put, List.setIfInBounds_toArray, List.set_cons_zero, List.set_cons_succ]
              refine wpAnyH_take (i := 4) (oi := ⟨_, _, _, _, _, _⟩) (v := ?vA4) rfl (by kernel_rfl) (by kernel_rfl) (by kernel_rfl) (fun _ _ _ h => h) (Or.inl ⟨by rfl, ?yA4⟩) (by assumption) ?_
              case yA4 => (intro wS hSw; (try dsimp only at hSw); go_simp; try with_reducible rfl)
              simp only [Act.put, List.setIfInBounds_toArray, List.set_cons_zero, List.set_cons_succ]
              refine wpAnyH_take (i := 6) (oi := ⟨_, _, _, _, _, _⟩) (v := ?vA6) rfl (by kernel_rfl) (by kernel_rfl) (by kernel_rfl) (fun _ _ _ h => h) (Or.inl ⟨by rfl, ?yA6⟩) (by assumption) ?_
              case yA6 => (intro wS hSw; (try dsimp only at hSw); go_simp; try with_reducible rfl)
              simp only [Act.put, List.setIfInBounds_toArray, List.set_cons_zero, List.set_cons_succ]
              refine wpAnyH_take (i := 7) (oi := ⟨_, _, _, _, _, _⟩) (v := ?vA7) rfl (by kernel_rfl) (by kernel_rfl) (by kernel_rfl) (fun _ _ _ h => h) (Or.inl ⟨by rfl, ?yA7⟩) (by assumption) ?_
              case yA7 => (intro wS hSw; (try dsimp only at hSw); go_simp; try with_reducible rfl)
              simp only [Act.put, List.setIfInBounds_toArray, List.set_cons_zero, List.set_cons_succ]
              refine wpAnyH_take (i := 8) (oi := ⟨_, _, _, _, _, _⟩) (v := ?vA8) rfl (by kernel_rfl) (by kernel_rfl) (by kernel_rfl) (fun _ _ _ h => h) (Or.inl ⟨by rfl, ?yA8⟩) (by assumption) ?_
              case yA8 => (intro wS hSw; (try dsimp only at hSw); go_simp; try with_reducible rfl)
              simp only [Act.put, List.setIfInBounds_toArray, List.set_cons_zero, List.set_cons_succ]
              refine wpAnyH_take (i := 9) (oi := ⟨_, _, _, _, _, _⟩) (v := ?vA9) rfl (by kernel_rfl) (by kernel_rfl) (by kernel_rfl) (fun _ _ _ h => h) (Or.inl ⟨by rfl, ?yA9⟩) (by assumption) ?_
              case yA9 => (intro wS hSw; (try dsimp only at hSw); go_simp; try with_reducible rfl)
              simp only [Act.put, List.setIfInBounds_toArray, List.set_cons_zero, List.set_cons_succ]
              refine wpAnyH_take (i := 10) (oi := ⟨_, _, _, _, _, _⟩) (v := ?vA10) rfl (by kernel_rfl) (by kernel_rfl) (by kernel_rfl) (fun _ _ _ h => h) (Or.inl ⟨by rfl, ?yA10⟩) (by assumption) ?_
              case yA10 => (intro wS hSw; (try dsimp only at hSw); go_simp; try with_reducible rfl)
              simp only [Act.put, List.setIfInBounds_toArray, List.set_cons_zero, List.set_cons_succ]
              refine wpAnyH_take (i := 11) (oi := ⟨_, _, _, _, _, _⟩) (v := ?vA11) rfl (by kernel_rfl) (by kernel_rfl) (by kernel_rfl) (fun _ _ _ h => h) (Or.inl ⟨by rfl, ?yA11⟩) (by assumption) ?_
              case yA11 => (intro wS hSw; (try dsimp only at hSw); go_simp; try with_reducible rfl)
              simp only [Act.put, List.setIfInBounds_toArray, List.set_cons_zero, List.set_cons_succ]
              refine wpAnyH_take (i := 12) (oi := ⟨_, _, _, _, _, _⟩) (v := ?vA12) rfl (by kernel_rfl) (by kernel_rfl) (by kernel_rfl) (fun _ _ _ h => h) (Or.inl ⟨by rfl, ?yA12⟩) (by assumption) ?_
              case yA12 => (intro wS hSw; (try dsimp only at hSw); go_simp; try with_reducible rfl)
              simp only [Act.put, List.setIfInBounds_toArray, List.set_cons_zero, List.set_cons_succ]
              refine wpAnyH_take (i := 13) (oi := ⟨_, _, _, _, _, _⟩) (v := ?vA13) rfl (by kernel_rfl) (by kernel_rfl) (by kernel_rfl) (fun _ _ _ h => h) (Or.inl ⟨by rfl, ?yA13⟩) (by assumption) ?_
              case yA13 => (intro wS hSw; (try dsimp only at hSw); go_simp; try with_reducible rfl)
              simp only [Act.put, List.setIfInBounds_toArray, List.set_cons_zero, List.set_cons_succ]
              refine wpAnyH_ready (rs := [5]) (by kernel_rfl) (by simp) ?_
              refine AllReadyH.cons (o := ⟨_, _, _, _, _, _⟩) rfl (fun K hK => ?hA5) AllReadyH.nil
              go_simp
              refine hK.out _ _ ?kA5 (fun hHeld => ?_)
              case kA5 => exact K3.out _ ((Below.refl _ _).alloc (Nat.le_refl _) _).drew.drew
              clear hK K
              try simp only [Act.put, List.setIfInBounds_toArray, List.set_cons_zero, List.set_cons_succ]
              refine wpAnyH_ready (rs := [14]) (by kernel_rfl) (by simp) ?_
              refine AllReadyH.cons (o := ⟨_, _, _, _, _, _⟩) rfl (fun K hK => ?hA14) AllReadyH.nil
              go_simp
              refine (tells_any x _ s.data.toList _ _ _ _ (Hi5.out.later (hbb.trans ((((Below.refl wr.heap.size wr).alloc (Nat.le_refl _) _).drew.drew).mono hbb.size))) ((conv_bytes wr s (by omega) _ (grown_ok wr.drew s hsz).1 (grown_ok wr.drew s hsz).2 _).later (Below.refl _ _).drew) (by simp; omega)).mono ?_
              rintro e w6 ⟨rfl, hb6⟩
              have hr6 : Below wr.heap.size wr w6 := (((Below.refl wr.heap.size wr).alloc (Nat.le_refl _) _).drew.drew).trans (hb6.mono (by simp))
              go_wp2_with fail
              refine hK.out _ _ ?kA14 (fun hHeld => ?_)
              case kA14 => exact K3.out _ hr6
              clear hK K
              try simp only [Act.put, List.setIfInBounds_toArray, List.set_cons_zero, List.set_cons_succ]
              refine wpAnyH_take (i := 15) (oi := ⟨_, _, _, _, _, _⟩) (v := ?vA15) rfl (by kernel_rfl) (by kernel_rfl) (by kernel_rfl) (fun _ _ _ h => h) (Or.inl ⟨by rfl, ?yA15⟩) (by assumption) ?_
              case yA15 => (intro wS hSw; (try dsimp only at hSw); go_simp; try with_reducible rfl)
              simp only [Act.put, List.setIfInBounds_toArray, List.set_cons_zero, List.set_cons_succ]
              refine wpAnyH_take (i := 16) (oi := ⟨_, _, _, _, _, _⟩) (v := ?vA16) rfl (by kernel_rfl) (by kernel_rfl) (by kernel_rfl) (fun _ _ _ h => h) (Or.inl ⟨by rfl, ?yA16⟩) (by assumption) ?_
              case yA16 => (intro wS hSw; (try dsimp only at hSw); go_simp; try with_reducible rfl)
              simp only [Act.put, List.setIfInBounds_toArray, List.set_cons_zero, List.set_cons_succ]
              refine wpAnyH_take (i := 17) (oi := ⟨_, _, _, _, _, _⟩) (v := ?vA17) rfl (by kernel_rfl) (by kernel_rfl) (by kernel_rfl) (fun _ _ _ h => h) (Or.inl ⟨by rfl, ?yA17⟩) (by assumption) ?_
              case yA17 => (intro wS hSw; (try dsimp only at hSw); go_simp; try with_reducible rfl)
              simp only [Act.put, List.setIfInBounds_toArray, List.set_cons_zero, List.set_cons_succ]
              refine wpAnyH_take (i := 18) (oi := ⟨_, _, _, _, _, _⟩) (v := ?vA18) rfl (by kernel_rfl) (by kernel_rfl) (by kernel_rfl) (fun _ _ _ h => h) (Or.inl ⟨by rfl, ?yA18⟩) (by assumption) ?_
              case yA18 => (intro wS hSw; (try dsimp only at hSw); go_simp; try with_reducible rfl)
              simp only [Act.put, List.setIfInBounds_toArray, List.set_cons_zero, List.set_cons_succ]
              refine wpAnyH_take (i := 19) (oi := ⟨_, _, _, _, _, _⟩) (v := ?vA19) rfl (by kernel_rfl) (by kernel_rfl) (by kernel_rfl) (fun _ _ _ h => h) (Or.inl ⟨by rfl, ?yA19⟩) (by assumption) ?_
              case yA19 => (intro wS hSw; (try dsimp only at hSw); go_simp; try with_reducible rfl)
              simp only [Act.put, List.setIfInBounds_toArray, List.set_cons_zero, List.set_cons_succ]
              refine wpAnyH_take (i := 20) (oi := ⟨_, _, _, _, _, _⟩) (v := ?vA20) rfl (by kernel_rfl) (by kernel_rfl) (by kernel_rfl) (fun _ _ _ h => h) (Or.inl ⟨by rfl, ?yA20⟩) (by assumption) ?_
              case yA20 => (intro wS hSw; (try dsimp only at hSw); go_simp; try with_reducible rfl)
              simp only [Act.put, List.setIfInBounds_toArray, List.set_cons_zero, List.set_cons_succ]
              refine wpAnyH_take (i := 21) (oi := ⟨_, _, _, _, _, _⟩) (v := ?vA21) rfl (by kernel_rfl) (by kernel_rfl) (by kernel_rfl) (fun _ _ _ h => h) (Or.inl ⟨by rfl, ?yA21⟩) (by assumption) ?_
              case yA21 => (intro wS hSw; (try dsimp only at hSw); go_simp; try with_reducible rfl)
              simp only [Act.put, List.setIfInBounds_toArray, List.set_cons_zero, List.set_cons_succ]
              refine wpAnyH_take (i := 23) (oi := ⟨_, _, _, _, _, _⟩) (v := ?vA23) rfl (by kernel_rfl) (by kernel_rfl) (by kernel_rfl) (fun _ _ _ h => h) (Or.inl ⟨by rfl, ?yA23⟩) (by assumption) ?_
              case yA23 => (intro wS hSw; (try dsimp only at hSw); go_simp; try with_reducible rfl)
              simp only [Act.put, List.setIfInBounds_toArray, List.set_cons_zero, List.set_cons_succ]
              refine wpAnyH_take (i := 24) (oi := ⟨_, _, _, _, _, _⟩) (v := ?vA24) rfl (by kernel_rfl) (by kernel_rfl) (by kernel_rfl) (fun _ _ _ h => h) (Or.inl ⟨by rfl, ?yA24⟩) (by assumption) ?_
              case yA24 => (intro wS hSw; (try dsimp only at hSw); go_simp; try with_reducible rfl)
              simp only [Act.put, List.setIfInBounds_toArray, List.set_cons_zero, List.set_cons_succ]
              refine wpAnyH_take (i := 25) (oi := ⟨_, _, _, _, _, _⟩) (v := ?vA25) rfl (by kernel_rfl) (by kernel_rfl) (by kernel_rfl) (fun _ _ _ h => h) (Or.inl ⟨by rfl, ?yA25⟩) (by assumption) ?_
              case yA25 => (intro wS hSw; (try dsimp only at hSw); go_simp; try with_reducible rfl)
              simp only [Act.put, List.setIfInBounds_toArray, List.set_cons_zero, List.set_cons_succ]
              refine wpAnyH_take (i := 26) (oi := ⟨_, _, _, _, _, _⟩) (v := ?vA26) rfl (by kernel_rfl) (by kernel_rfl) (by kernel_rfl) (fun _ _ _ h => h) (Or.inl ⟨by rfl, ?yA26⟩) (by assumption) ?_
              case yA26 => (intro wS hSw; (try dsimp only at hSw); go_simp; try with_reducible rfl)
              simp only [Act.put, List.setIfInBounds_toArray, List.set_cons_zero, List.set_cons_succ]
              refine wpAnyH_ready (rs := [22]) (by kernel_rfl) (by simp) ?_
              refine AllReadyH.cons (o := ⟨_, _, _, _, _, _⟩) rfl (fun K hK => ?hA22) AllReadyH.nil
              go_simp
              refine hK.out _ _ ?kA22 (fun hHeld => ?_)
              case kA22 => exact K3.out _ ((hr6.alloc hr6.size _).drew)
              clear hK K
              try simp only [Act.put, List.setIfInBounds_toArray, List.set_cons_zero, List.set_cons_succ]
              refine wpAnyH_ready (rs := [27]) (by kernel_rfl) (by simp) ?_
              refine AllReadyH.cons (o := ⟨_, _, _, _, _, _⟩) rfl (fun K hK => ?hA27) AllReadyH.nil
              go_simp
              refine (tells_any x _ s.data.toList _ _ _ _ (Hi5.out.later (hbb.trans (((hr6.alloc hr6.size _).drew).mono hbb.size))) (conv_bytes w6 s (by omega) _ (grown_ok w6 s hsz).1 (grown_ok w6 s hsz).2 _) (by simp; omega)).mono ?_
              rintro e w7 ⟨rfl, hb7⟩
              have hr7 : Below wr.heap.size wr w7 := ((hr6.alloc hr6.size _).drew).trans (hb7.mono (by have := hr6.size; simp; omega))
              go_wp2_with fail
              refine hK.out _ _ ?kA27 (fun hHeld => ?_)
              case kA27 => exact K3.out _ hr7
              clear hK K
              try simp only [Act.put, List.setIfInBounds_toArray, List.set_cons_zero, List.set_cons_succ]
              refine wpAnyH_take (i := 28) (oi := ⟨_, _, _, _, _, _⟩) (v := ?vA28) rfl (by kernel_rfl) (by kernel_rfl) (by kernel_rfl) (fun _ _ _ h => h) (Or.inl ⟨by rfl, ?yA28⟩) (by assumption) ?_
              case yA28 => (intro wS hSw; (try dsimp only at hSw); go_simp; try with_reducible rfl)
              simp only [Act.put, List.setIfInBounds_toArray, List.set_cons_zero, List.set_cons_succ]
              refine wpAnyH_take (i := 29) (oi := ⟨_, _, _, _, _, _⟩) (v := ?vA29) rfl (by kernel_rfl) (by kernel_rfl) (by kernel_rfl) (fun _ _ _ h => h) (Or.inl ⟨by rfl, ?yA29⟩) (by assumption) ?_
              case yA29 => (intro wS hSw; (try dsimp only at hSw); go_simp; try with_reducible rfl)
              simp only [Act.put, List.setIfInBounds_toArray, List.set_cons_zero, List.set_cons_succ]
              refine wpAnyH_done (by kernel_rfl) ?_ _
              go_wp2
              go_roundw
              case rel => exact ⟨b + 1, by omega, by go_num, hbb.trans (hr7.mono hbb.size)⟩
              case measure => simp [intOf]; omega
            · have hbl' : ¬ (b : Int) < 4 := by omega
              go_wp2
              go_roundw
              case rel => exact ⟨k + 1, by omega, by go_num, Hstr5.out.later hbb, hbel5.trans (hbb.mono hbel5.size)⟩
              case measure => simp [intOf]; omega
    · have hlt9 : ¬ (k : Int) < 9 := by omega
      go_wp2
      obtain ⟨wo, rfl⟩ : ∃ wo : World, wo = wr := ⟨_, rfl⟩
      have hBw := hbel.size
      have hst := nones_start wo
      have hbst : Below w.heap.size w ((wo.alloc (Obj.cells #[Value.slice none 0 0, Value.int IntKind.i64 0] 42)).alloc (Obj.cells #[Value.pointer none, Value.pointer (some { block := wo.heap.size, off := 0 })] 24)) := (hbel.alloc hBw _).alloc (by simp; omega) _
      have Hst := Lib.hid hst
      clear hst
      go_loopw [9] (fun i wq => ∃ q : Nat, q ≤ 2 ∧ i = .int .i64 q ∧ Nones wo.heap.size wq ∧ Below w.heap.size w wq) (fun i _ => 2 - (intOf i).toNat)
      case atStart => exact ⟨0, by omega, rfl, Hst.out, hbst⟩
      case round =>
        obtain ⟨q, hq, rfl, hno, hbq⟩ := hrel
        clear Hst hbst
        have Hno := Lib.hid hno
        clear hno
        by_cases hk2 : q < 2
        · obtain ⟨v, hv1, hv2⟩ := nones_get Hno.out q hk2
          have Hv := Lib.hid hv2
          clear hv2
          have hk2' : (q : Int) < 2 := by omega
          go_wp2_with fail
          refine (at_no v 0 _ Hv.out).mono ?_
          rintro e w7 ⟨rfl, rfl⟩
          go_wp2_with fail
          refine (place_no v 1 1 _ Hv.out).mono ?_
          rintro e w7 ⟨rfl, rfl⟩
          go_wp2_with fail
          refine (line_no v 1 _ Hv.out).mono ?_
          rintro e w7 ⟨rfl, rfl⟩
          go_wp2_with fail
          go_quiet ((first
            | (go_at_call 11; exact Calls.quiet_of_same ((lines_no v _ (noIdx_later Hv.out (below_same _ rfl))).mono fun _ _ ⟨he, hw⟩ => ⟨he, hw.symm⟩))
            | (go_at_call 17; exact Calls.quiet_of_same ((len_no v _ (noIdx_later Hv.out (below_same _ rfl))).mono fun _ _ ⟨he, hw⟩ => ⟨he, hw.symm⟩))))
          go_wp2
          go_roundw
          case rel => exact ⟨q + 1, by omega, by go_num, nones_later Hno.out (below_same _ rfl), below_draws hbq _⟩
          case measure => simp [intOf]; omega
        · have hk2' : ¬ (q : Int) < 2 := by omega
          go_wp2_with fail
          refine (awake_any _).mono ?_
          rintro e w6 ⟨rfl, hb6⟩
          go_wp2
          go_ret
          exact ⟨rfl, hbq.trans (hb6.mono hbq.size)⟩

end Go.Proofs.Ythapnknhodjepaa
