import Derived.Test.YtadkjjpopmiceaaGreatRfkm
namespace Go.Proofs.YtadkjjpopmiceaaGreat
open Go.RowKit Go.Lib

theorem Tryz.infoNLimbs : (Tryz.prog.info? 147).map (fun i => (i.zero, i.size, i.bytes)) = some (some (.slice none 0 0), 1, 24) := by kernel_rfl
set_option maxRecDepth 100000 in
set_option maxHeartbeats 2000000 in
theorem nilLimbs_any (w : World) : Calls Tryz.prog 88 #[.slice none 0 0] w fun e w' => e = .returned (.bool true) ∧ Below w.heap.size w w' := by
  obtain ⟨i1, hi1, hs0, hs1, hs2⟩ := info_parts Tryz.infoNLimbs
  go_enter Tryz.func88, Tryz.ntmps88
  go_wp2
  go_loopw [3] (fun i wr => i = .int .i64 0 ∧ Below w.heap.size w wr) (fun _ _ => 0)
  case atStart => exact ⟨rfl, Below.refl _ _⟩
  case round =>
    obtain ⟨rfl, hbel⟩ := hrel
    have HB := Lib.hid hbel
    clear hbel
    have hsz := HB.out.size
    go_wp2_with (at_make; refine wpList_make_full _ rfl _ _ 83 rfl w.heap.size 147 i1 (.slice none 0 0) 1 Tryz.underlying83 hi1 hs0 hs1 .i64 .i64 _ _ 0 rfl rfl rfl rfl (by rw [hs2]; omega) (by unfold maxLen; omega) hsz ?_; intro w1 hown1 hg1)
    have HB := Lib.hid (HB.out.grown hg1 hsz (fun k hk => by simp at hk))
    clear hown1 hg1 hsz
    go_wp2
    go_loopw [6] (fun i wr => i = .int .i64 0 ∧ Below w.heap.size w wr) (fun _ _ => 0)
    case atStart => exact ⟨rfl, HB.out⟩
    case round =>
      obtain ⟨rfl, hbel⟩ := hrel
      have HB := Lib.hid hbel
      clear hbel
      go_wp2
      go_loopw [9] (fun i wr => i = .int .i64 0 ∧ Below w.heap.size w wr) (fun _ _ => 0)
      case atStart => exact ⟨rfl, HB.out⟩
      case round =>
        obtain ⟨rfl, hbel⟩ := hrel
        have HB := Lib.hid hbel
        clear hbel
        go_wp2
        go_loopw [11] (fun i wr => i = .int .i64 0 ∧ Below w.heap.size w wr) (fun _ _ => 0)
        case atStart => exact ⟨rfl, HB.out⟩
        case round =>
          obtain ⟨rfl, hbel⟩ := hrel
          have HB := Lib.hid hbel
          clear hbel
          go_wp2
          go_loopw [14] (fun i wr => i = .int .i64 0 ∧ Below w.heap.size w wr) (fun _ _ => 0)
          case atStart => exact ⟨rfl, HB.out⟩
          case round =>
            obtain ⟨rfl, hbel⟩ := hrel
            have HB := Lib.hid hbel
            clear hbel
            go_wp2
            go_ret
            exact ⟨rfl, HB.out⟩
theorem Tryz.infoNWords : (Tryz.prog.info? 149).map (fun i => (i.zero, i.size, i.bytes)) = some (some (.slice none 0 0), 1, 24) := by kernel_rfl
set_option maxRecDepth 100000 in
set_option maxHeartbeats 2000000 in
theorem nilWords_any (w : World) : Calls Tryz.prog 89 #[.slice none 0 0] w fun e w' => e = .returned (.bool true) ∧ Below w.heap.size w w' := by
  obtain ⟨i1, hi1, hs0, hs1, hs2⟩ := info_parts Tryz.infoNWords
  go_enter Tryz.func89, Tryz.ntmps89
  go_wp2
  go_loopw [3] (fun i wr => i = .int .i64 0 ∧ Below w.heap.size w wr) (fun _ _ => 0)
  case atStart => exact ⟨rfl, Below.refl _ _⟩
  case round =>
    obtain ⟨rfl, hbel⟩ := hrel
    have HB := Lib.hid hbel
    clear hbel
    have hsz := HB.out.size
    go_wp2_with (at_make; refine wpList_make_full _ rfl _ _ 84 rfl w.heap.size 149 i1 (.slice none 0 0) 1 Tryz.underlying84 hi1 hs0 hs1 .i64 .i64 _ _ 0 rfl rfl rfl rfl (by rw [hs2]; omega) (by unfold maxLen; omega) hsz ?_; intro w1 hown1 hg1)
    have HB := Lib.hid (HB.out.grown hg1 hsz (fun k hk => by simp at hk))
    clear hown1 hg1 hsz
    go_wp2
    go_loopw [6] (fun i wr => i = .int .i64 0 ∧ Below w.heap.size w wr) (fun _ _ => 0)
    case atStart => exact ⟨rfl, HB.out⟩
    case round =>
      obtain ⟨rfl, hbel⟩ := hrel
      have HB := Lib.hid hbel
      clear hbel
      go_wp2
      go_loopw [9] (fun i wr => i = .int .i64 0 ∧ Below w.heap.size w wr) (fun _ _ => 0)
      case atStart => exact ⟨rfl, HB.out⟩
      case round =>
        obtain ⟨rfl, hbel⟩ := hrel
        have HB := Lib.hid hbel
        clear hbel
        go_wp2
        go_loopw [11] (fun i wr => i = .int .i64 0 ∧ Below w.heap.size w wr) (fun _ _ => 0)
        case atStart => exact ⟨rfl, HB.out⟩
        case round =>
          obtain ⟨rfl, hbel⟩ := hrel
          have HB := Lib.hid hbel
          clear hbel
          go_wp2
          go_loopw [14] (fun i wr => i = .int .i64 0 ∧ Below w.heap.size w wr) (fun _ _ => 0)
          case atStart => exact ⟨rfl, HB.out⟩
          case round =>
            obtain ⟨rfl, hbel⟩ := hrel
            have HB := Lib.hid hbel
            clear hbel
            go_wp2
            go_ret
            exact ⟨rfl, HB.out⟩
theorem Tryz.infoNLongs : (Tryz.prog.info? 151).map (fun i => (i.zero, i.size, i.bytes)) = some (some (.slice none 0 0), 1, 24) := by kernel_rfl
set_option maxRecDepth 100000 in
set_option maxHeartbeats 2000000 in
theorem nilLongs_any (w : World) : Calls Tryz.prog 91 #[.slice none 0 0] w fun e w' => e = .returned (.bool true) ∧ Below w.heap.size w w' := by
  obtain ⟨i1, hi1, hs0, hs1, hs2⟩ := info_parts Tryz.infoNLongs
  go_enter Tryz.func91, Tryz.ntmps91
  go_wp2
  go_loopw [3] (fun i wr => i = .int .i64 0 ∧ Below w.heap.size w wr) (fun _ _ => 0)
  case atStart => exact ⟨rfl, Below.refl _ _⟩
  case round =>
    obtain ⟨rfl, hbel⟩ := hrel
    have HB := Lib.hid hbel
    clear hbel
    have hsz := HB.out.size
    go_wp2_with (at_make; refine wpList_make_full _ rfl _ _ 85 rfl w.heap.size 151 i1 (.slice none 0 0) 1 Tryz.underlying85 hi1 hs0 hs1 .i64 .i64 _ _ 0 rfl rfl rfl rfl (by rw [hs2]; omega) (by unfold maxLen; omega) hsz ?_; intro w1 hown1 hg1)
    have HB := Lib.hid (HB.out.grown hg1 hsz (fun k hk => by simp at hk))
    clear hown1 hg1 hsz
    go_wp2
    go_loopw [6] (fun i wr => i = .int .i64 0 ∧ Below w.heap.size w wr) (fun _ _ => 0)
    case atStart => exact ⟨rfl, HB.out⟩
    case round =>
      obtain ⟨rfl, hbel⟩ := hrel
      have HB := Lib.hid hbel
      clear hbel
      go_wp2
      go_loopw [9] (fun i wr => i = .int .i64 0 ∧ Below w.heap.size w wr) (fun _ _ => 0)
      case atStart => exact ⟨rfl, HB.out⟩
      case round =>
        obtain ⟨rfl, hbel⟩ := hrel
        have HB := Lib.hid hbel
        clear hbel
        go_wp2
        go_loopw [11] (fun i wr => i = .int .i64 0 ∧ Below w.heap.size w wr) (fun _ _ => 0)
        case atStart => exact ⟨rfl, HB.out⟩
        case round =>
          obtain ⟨rfl, hbel⟩ := hrel
          have HB := Lib.hid hbel
          clear hbel
          go_wp2
          go_loopw [14] (fun i wr => i = .int .i64 0 ∧ Below w.heap.size w wr) (fun _ _ => 0)
          case atStart => exact ⟨rfl, HB.out⟩
          case round =>
            obtain ⟨rfl, hbel⟩ := hrel
            have HB := Lib.hid hbel
            clear hbel
            go_wp2
            go_ret
            exact ⟨rfl, HB.out⟩
theorem Tryz.infoNTexts : (Tryz.prog.info? 152).map (fun i => (i.zero, i.size, i.bytes)) = some (some (.slice none 0 0), 1, 24) := by kernel_rfl
set_option maxRecDepth 100000 in
set_option maxHeartbeats 2000000 in
theorem nilTexts_any (w : World) : Calls Tryz.prog 92 #[.slice none 0 0] w fun e w' => e = .returned (.bool true) ∧ Below w.heap.size w w' := by
  obtain ⟨i1, hi1, hs0, hs1, hs2⟩ := info_parts Tryz.infoNTexts
  go_enter Tryz.func92, Tryz.ntmps92
  go_wp2
  go_loopw [3] (fun i wr => i = .int .i64 0 ∧ Below w.heap.size w wr) (fun _ _ => 0)
  case atStart => exact ⟨rfl, Below.refl _ _⟩
  case round =>
    obtain ⟨rfl, hbel⟩ := hrel
    have HB := Lib.hid hbel
    clear hbel
    have hsz := HB.out.size
    go_wp2_with (at_make; refine wpList_make_full _ rfl _ _ 86 rfl w.heap.size 152 i1 (.slice none 0 0) 1 Tryz.underlying86 hi1 hs0 hs1 .i64 .i64 _ _ 0 rfl rfl rfl rfl (by rw [hs2]; omega) (by unfold maxLen; omega) hsz ?_; intro w1 hown1 hg1)
    have HB := Lib.hid (HB.out.grown hg1 hsz (fun k hk => by simp at hk))
    clear hown1 hg1 hsz
    go_wp2
    go_loopw [6] (fun i wr => i = .int .i64 0 ∧ Below w.heap.size w wr) (fun _ _ => 0)
    case atStart => exact ⟨rfl, HB.out⟩
    case round =>
      obtain ⟨rfl, hbel⟩ := hrel
      have HB := Lib.hid hbel
      clear hbel
      go_wp2
      go_loopw [9] (fun i wr => i = .int .i64 0 ∧ Below w.heap.size w wr) (fun _ _ => 0)
      case atStart => exact ⟨rfl, HB.out⟩
      case round =>
        obtain ⟨rfl, hbel⟩ := hrel
        have HB := Lib.hid hbel
        clear hbel
        go_wp2
        go_loopw [11] (fun i wr => i = .int .i64 0 ∧ Below w.heap.size w wr) (fun _ _ => 0)
        case atStart => exact ⟨rfl, HB.out⟩
        case round =>
          obtain ⟨rfl, hbel⟩ := hrel
          have HB := Lib.hid hbel
          clear hbel
          go_wp2
          go_loopw [14] (fun i wr => i = .int .i64 0 ∧ Below w.heap.size w wr) (fun _ _ => 0)
          case atStart => exact ⟨rfl, HB.out⟩
          case round =>
            obtain ⟨rfl, hbel⟩ := hrel
            have HB := Lib.hid hbel
            clear hbel
            go_wp2
            go_ret
            exact ⟨rfl, HB.out⟩
theorem Tryz.infoNBytes : (Tryz.prog.info? 154).map (fun i => (i.zero, i.size, i.bytes)) = some (some (.slice none 0 0), 1, 24) := by kernel_rfl
set_option maxRecDepth 100000 in
set_option maxHeartbeats 2000000 in
theorem nilBytes_any (w : World) : Calls Tryz.prog 93 #[.slice none 0 0] w fun e w' => e = .returned (.bool true) ∧ Below w.heap.size w w' := by
  obtain ⟨i1, hi1, hs0, hs1, hs2⟩ := info_parts Tryz.infoNBytes
  go_enter Tryz.func93, Tryz.ntmps93
  go_wp2
  go_loopw [3] (fun i wr => i = .int .i64 0 ∧ Below w.heap.size w wr) (fun _ _ => 0)
  case atStart => exact ⟨rfl, Below.refl _ _⟩
  case round =>
    obtain ⟨rfl, hbel⟩ := hrel
    have HB := Lib.hid hbel
    clear hbel
    have hsz := HB.out.size
    go_wp2_with (at_make; refine wpList_make_full _ rfl _ _ 87 rfl w.heap.size 154 i1 (.slice none 0 0) 1 Tryz.underlying87 hi1 hs0 hs1 .i64 .i64 _ _ 0 rfl rfl rfl rfl (by rw [hs2]; omega) (by unfold maxLen; omega) hsz ?_; intro w1 hown1 hg1)
    have HB := Lib.hid (HB.out.grown hg1 hsz (fun k hk => by simp at hk))
    clear hown1 hg1 hsz
    go_wp2
    go_loopw [6] (fun i wr => i = .int .i64 0 ∧ Below w.heap.size w wr) (fun _ _ => 0)
    case atStart => exact ⟨rfl, HB.out⟩
    case round =>
      obtain ⟨rfl, hbel⟩ := hrel
      have HB := Lib.hid hbel
      clear hbel
      go_wp2
      go_loopw [9] (fun i wr => i = .int .i64 0 ∧ Below w.heap.size w wr) (fun _ _ => 0)
      case atStart => exact ⟨rfl, HB.out⟩
      case round =>
        obtain ⟨rfl, hbel⟩ := hrel
        have HB := Lib.hid hbel
        clear hbel
        go_wp2
        go_loopw [11] (fun i wr => i = .int .i64 0 ∧ Below w.heap.size w wr) (fun _ _ => 0)
        case atStart => exact ⟨rfl, HB.out⟩
        case round =>
          obtain ⟨rfl, hbel⟩ := hrel
          have HB := Lib.hid hbel
          clear hbel
          go_wp2
          go_loopw [14] (fun i wr => i = .int .i64 0 ∧ Below w.heap.size w wr) (fun _ _ => 0)
          case atStart => exact ⟨rfl, HB.out⟩
          case round =>
            obtain ⟨rfl, hbel⟩ := hrel
            have HB := Lib.hid hbel
            clear hbel
            go_wp2
            go_ret
            exact ⟨rfl, HB.out⟩
theorem Tryz.infoNTruths : (Tryz.prog.info? 156).map (fun i => (i.zero, i.size, i.bytes)) = some (some (.slice none 0 0), 1, 24) := by kernel_rfl
set_option maxRecDepth 100000 in
set_option maxHeartbeats 2000000 in
theorem nilTruths_any (w : World) : Calls Tryz.prog 94 #[.slice none 0 0] w fun e w' => e = .returned (.bool true) ∧ Below w.heap.size w w' := by
  obtain ⟨i1, hi1, hs0, hs1, hs2⟩ := info_parts Tryz.infoNTruths
  go_enter Tryz.func94, Tryz.ntmps94
  go_wp2
  go_loopw [3] (fun i wr => i = .int .i64 0 ∧ Below w.heap.size w wr) (fun _ _ => 0)
  case atStart => exact ⟨rfl, Below.refl _ _⟩
  case round =>
    obtain ⟨rfl, hbel⟩ := hrel
    have HB := Lib.hid hbel
    clear hbel
    have hsz := HB.out.size
    go_wp2_with (at_make; refine wpList_make_full _ rfl _ _ 88 rfl w.heap.size 156 i1 (.slice none 0 0) 1 Tryz.underlying88 hi1 hs0 hs1 .i64 .i64 _ _ 0 rfl rfl rfl rfl (by rw [hs2]; omega) (by unfold maxLen; omega) hsz ?_; intro w1 hown1 hg1)
    have HB := Lib.hid (HB.out.grown hg1 hsz (fun k hk => by simp at hk))
    clear hown1 hg1 hsz
    go_wp2
    go_loopw [6] (fun i wr => i = .int .i64 0 ∧ Below w.heap.size w wr) (fun _ _ => 0)
    case atStart => exact ⟨rfl, HB.out⟩
    case round =>
      obtain ⟨rfl, hbel⟩ := hrel
      have HB := Lib.hid hbel
      clear hbel
      go_wp2
      go_loopw [9] (fun i wr => i = .int .i64 0 ∧ Below w.heap.size w wr) (fun _ _ => 0)
      case atStart => exact ⟨rfl, HB.out⟩
      case round =>
        obtain ⟨rfl, hbel⟩ := hrel
        have HB := Lib.hid hbel
        clear hbel
        go_wp2
        go_loopw [11] (fun i wr => i = .int .i64 0 ∧ Below w.heap.size w wr) (fun _ _ => 0)
        case atStart => exact ⟨rfl, HB.out⟩
        case round =>
          obtain ⟨rfl, hbel⟩ := hrel
          have HB := Lib.hid hbel
          clear hbel
          go_wp2
          go_loopw [14] (fun i wr => i = .int .i64 0 ∧ Below w.heap.size w wr) (fun _ _ => 0)
          case atStart => exact ⟨rfl, HB.out⟩
          case round =>
            obtain ⟨rfl, hbel⟩ := hrel
            have HB := Lib.hid hbel
            clear hbel
            go_wp2
            go_ret
            exact ⟨rfl, HB.out⟩
theorem Tryz.infoNNodes : (Tryz.prog.info? 157).map (fun i => (i.zero, i.size, i.bytes)) = some (some (.slice none 0 0), 1, 24) := by kernel_rfl
set_option maxRecDepth 100000 in
set_option maxHeartbeats 2000000 in
theorem nilNodes_any (w : World) : Calls Tryz.prog 96 #[.slice none 0 0] w fun e w' => e = .returned (.bool true) ∧ Below w.heap.size w w' := by
  obtain ⟨i1, hi1, hs0, hs1, hs2⟩ := info_parts Tryz.infoNNodes
  go_enter Tryz.func96, Tryz.ntmps96
  go_wp2
  go_loopw [3] (fun i wr => i = .int .i64 0 ∧ Below w.heap.size w wr) (fun _ _ => 0)
  case atStart => exact ⟨rfl, Below.refl _ _⟩
  case round =>
    obtain ⟨rfl, hbel⟩ := hrel
    have HB := Lib.hid hbel
    clear hbel
    have hsz := HB.out.size
    go_wp2_with (at_make; refine wpList_make_full _ rfl _ _ 89 rfl w.heap.size 157 i1 (.slice none 0 0) 1 Tryz.underlying89 hi1 hs0 hs1 .i64 .i64 _ _ 0 rfl rfl rfl rfl (by rw [hs2]; omega) (by unfold maxLen; omega) hsz ?_; intro w1 hown1 hg1)
    have HB := Lib.hid (HB.out.grown hg1 hsz (fun k hk => by simp at hk))
    clear hown1 hg1 hsz
    go_wp2
    go_loopw [6] (fun i wr => i = .int .i64 0 ∧ Below w.heap.size w wr) (fun _ _ => 0)
    case atStart => exact ⟨rfl, HB.out⟩
    case round =>
      obtain ⟨rfl, hbel⟩ := hrel
      have HB := Lib.hid hbel
      clear hbel
      go_wp2
      go_loopw [9] (fun i wr => i = .int .i64 0 ∧ Below w.heap.size w wr) (fun _ _ => 0)
      case atStart => exact ⟨rfl, HB.out⟩
      case round =>
        obtain ⟨rfl, hbel⟩ := hrel
        have HB := Lib.hid hbel
        clear hbel
        go_wp2
        go_loopw [11] (fun i wr => i = .int .i64 0 ∧ Below w.heap.size w wr) (fun _ _ => 0)
        case atStart => exact ⟨rfl, HB.out⟩
        case round =>
          obtain ⟨rfl, hbel⟩ := hrel
          have HB := Lib.hid hbel
          clear hbel
          go_wp2
          go_loopw [14] (fun i wr => i = .int .i64 0 ∧ Below w.heap.size w wr) (fun _ _ => 0)
          case atStart => exact ⟨rfl, HB.out⟩
          case round =>
            obtain ⟨rfl, hbel⟩ := hrel
            have HB := Lib.hid hbel
            clear hbel
            go_wp2
            go_ret
            exact ⟨rfl, HB.out⟩
theorem Tryz.infoNRules : (Tryz.prog.info? 165).map (fun i => (i.zero, i.size, i.bytes)) = some (some (.slice none 0 0), 1, 24) := by kernel_rfl
set_option maxRecDepth 100000 in
set_option maxHeartbeats 2000000 in
theorem nilRules_any (w : World) : Calls Tryz.prog 97 #[.slice none 0 0] w fun e w' => e = .returned (.bool true) ∧ Below w.heap.size w w' := by
  obtain ⟨i1, hi1, hs0, hs1, hs2⟩ := info_parts Tryz.infoNRules
  go_enter Tryz.func97, Tryz.ntmps97
  go_wp2
  go_loopw [3] (fun i wr => i = .int .i64 0 ∧ Below w.heap.size w wr) (fun _ _ => 0)
  case atStart => exact ⟨rfl, Below.refl _ _⟩
  case round =>
    obtain ⟨rfl, hbel⟩ := hrel
    have HB := Lib.hid hbel
    clear hbel
    have hsz := HB.out.size
    go_wp2_with (at_make; refine wpList_make_full _ rfl _ _ 90 rfl w.heap.size 165 i1 (.slice none 0 0) 1 Tryz.underlying90 hi1 hs0 hs1 .i64 .i64 _ _ 0 rfl rfl rfl rfl (by rw [hs2]; omega) (by unfold maxLen; omega) hsz ?_; intro w1 hown1 hg1)
    have HB := Lib.hid (HB.out.grown hg1 hsz (fun k hk => by simp at hk))
    clear hown1 hg1 hsz
    go_wp2
    go_loopw [6] (fun i wr => i = .int .i64 0 ∧ Below w.heap.size w wr) (fun _ _ => 0)
    case atStart => exact ⟨rfl, HB.out⟩
    case round =>
      obtain ⟨rfl, hbel⟩ := hrel
      have HB := Lib.hid hbel
      clear hbel
      go_wp2
      go_loopw [9] (fun i wr => i = .int .i64 0 ∧ Below w.heap.size w wr) (fun _ _ => 0)
      case atStart => exact ⟨rfl, HB.out⟩
      case round =>
        obtain ⟨rfl, hbel⟩ := hrel
        have HB := Lib.hid hbel
        clear hbel
        go_wp2
        go_loopw [11] (fun i wr => i = .int .i64 0 ∧ Below w.heap.size w wr) (fun _ _ => 0)
        case atStart => exact ⟨rfl, HB.out⟩
        case round =>
          obtain ⟨rfl, hbel⟩ := hrel
          have HB := Lib.hid hbel
          clear hbel
          go_wp2
          go_loopw [14] (fun i wr => i = .int .i64 0 ∧ Below w.heap.size w wr) (fun _ _ => 0)
          case atStart => exact ⟨rfl, HB.out⟩
          case round =>
            obtain ⟨rfl, hbel⟩ := hrel
            have HB := Lib.hid hbel
            clear hbel
            go_wp2
            go_ret
            exact ⟨rfl, HB.out⟩
theorem Tryz.infoNSpans : (Tryz.prog.info? 169).map (fun i => (i.zero, i.size, i.bytes)) = some (some (.slice none 0 0), 1, 24) := by kernel_rfl
set_option maxRecDepth 100000 in
set_option maxHeartbeats 2000000 in
theorem nilSpans_any (w : World) : Calls Tryz.prog 98 #[.slice none 0 0] w fun e w' => e = .returned (.bool true) ∧ Below w.heap.size w w' := by
  obtain ⟨i1, hi1, hs0, hs1, hs2⟩ := info_parts Tryz.infoNSpans
  go_enter Tryz.func98, Tryz.ntmps98
  go_wp2
  go_loopw [3] (fun i wr => i = .int .i64 0 ∧ Below w.heap.size w wr) (fun _ _ => 0)
  case atStart => exact ⟨rfl, Below.refl _ _⟩
  case round =>
    obtain ⟨rfl, hbel⟩ := hrel
    have HB := Lib.hid hbel
    clear hbel
    have hsz := HB.out.size
    go_wp2_with (at_make; refine wpList_make_full _ rfl _ _ 91 rfl w.heap.size 169 i1 (.slice none 0 0) 1 Tryz.underlying91 hi1 hs0 hs1 .i64 .i64 _ _ 0 rfl rfl rfl rfl (by rw [hs2]; omega) (by unfold maxLen; omega) hsz ?_; intro w1 hown1 hg1)
    have HB := Lib.hid (HB.out.grown hg1 hsz (fun k hk => by simp at hk))
    clear hown1 hg1 hsz
    go_wp2
    go_loopw [6] (fun i wr => i = .int .i64 0 ∧ Below w.heap.size w wr) (fun _ _ => 0)
    case atStart => exact ⟨rfl, HB.out⟩
    case round =>
      obtain ⟨rfl, hbel⟩ := hrel
      have HB := Lib.hid hbel
      clear hbel
      go_wp2
      go_loopw [9] (fun i wr => i = .int .i64 0 ∧ Below w.heap.size w wr) (fun _ _ => 0)
      case atStart => exact ⟨rfl, HB.out⟩
      case round =>
        obtain ⟨rfl, hbel⟩ := hrel
        have HB := Lib.hid hbel
        clear hbel
        go_wp2
        go_loopw [11] (fun i wr => i = .int .i64 0 ∧ Below w.heap.size w wr) (fun _ _ => 0)
        case atStart => exact ⟨rfl, HB.out⟩
        case round =>
          obtain ⟨rfl, hbel⟩ := hrel
          have HB := Lib.hid hbel
          clear hbel
          go_wp2
          go_loopw [14] (fun i wr => i = .int .i64 0 ∧ Below w.heap.size w wr) (fun _ _ => 0)
          case atStart => exact ⟨rfl, HB.out⟩
          case round =>
            obtain ⟨rfl, hbel⟩ := hrel
            have HB := Lib.hid hbel
            clear hbel
            go_wp2
            go_ret
            exact ⟨rfl, HB.out⟩
theorem Tryz.infoNGrammars : (Tryz.prog.info? 171).map (fun i => (i.zero, i.size, i.bytes)) = some (some (.slice none 0 0), 1, 24) := by kernel_rfl
set_option maxRecDepth 100000 in
set_option maxHeartbeats 2000000 in
theorem nilGrammars_any (w : World) : Calls Tryz.prog 99 #[.slice none 0 0] w fun e w' => e = .returned (.bool true) ∧ Below w.heap.size w w' := by
  obtain ⟨i1, hi1, hs0, hs1, hs2⟩ := info_parts Tryz.infoNGrammars
  go_enter Tryz.func99, Tryz.ntmps99
  go_wp2
  go_loopw [3] (fun i wr => i = .int .i64 0 ∧ Below w.heap.size w wr) (fun _ _ => 0)
  case atStart => exact ⟨rfl, Below.refl _ _⟩
  case round =>
    obtain ⟨rfl, hbel⟩ := hrel
    have HB := Lib.hid hbel
    clear hbel
    have hsz := HB.out.size
    go_wp2_with (at_make; refine wpList_make_full _ rfl _ _ 92 rfl w.heap.size 171 i1 (.slice none 0 0) 1 Tryz.underlying92 hi1 hs0 hs1 .i64 .i64 _ _ 0 rfl rfl rfl rfl (by rw [hs2]; omega) (by unfold maxLen; omega) hsz ?_; intro w1 hown1 hg1)
    have HB := Lib.hid (HB.out.grown hg1 hsz (fun k hk => by simp at hk))
    clear hown1 hg1 hsz
    go_wp2
    go_loopw [6] (fun i wr => i = .int .i64 0 ∧ Below w.heap.size w wr) (fun _ _ => 0)
    case atStart => exact ⟨rfl, HB.out⟩
    case round =>
      obtain ⟨rfl, hbel⟩ := hrel
      have HB := Lib.hid hbel
      clear hbel
      go_wp2
      go_loopw [9] (fun i wr => i = .int .i64 0 ∧ Below w.heap.size w wr) (fun _ _ => 0)
      case atStart => exact ⟨rfl, HB.out⟩
      case round =>
        obtain ⟨rfl, hbel⟩ := hrel
        have HB := Lib.hid hbel
        clear hbel
        go_wp2
        go_loopw [11] (fun i wr => i = .int .i64 0 ∧ Below w.heap.size w wr) (fun _ _ => 0)
        case atStart => exact ⟨rfl, HB.out⟩
        case round =>
          obtain ⟨rfl, hbel⟩ := hrel
          have HB := Lib.hid hbel
          clear hbel
          go_wp2
          go_loopw [14] (fun i wr => i = .int .i64 0 ∧ Below w.heap.size w wr) (fun _ _ => 0)
          case atStart => exact ⟨rfl, HB.out⟩
          case round =>
            obtain ⟨rfl, hbel⟩ := hrel
            have HB := Lib.hid hbel
            clear hbel
            go_wp2
            go_ret
            exact ⟨rfl, HB.out⟩
theorem Tryz.infoNFounds : (Tryz.prog.info? 176).map (fun i => (i.zero, i.size, i.bytes)) = some (some (.slice none 0 0), 1, 24) := by kernel_rfl
set_option maxRecDepth 100000 in
set_option maxHeartbeats 2000000 in
theorem nilFounds_any (w : World) : Calls Tryz.prog 100 #[.slice none 0 0] w fun e w' => e = .returned (.bool true) ∧ Below w.heap.size w w' := by
  obtain ⟨i1, hi1, hs0, hs1, hs2⟩ := info_parts Tryz.infoNFounds
  go_enter Tryz.func100, Tryz.ntmps100
  go_wp2
  go_loopw [3] (fun i wr => i = .int .i64 0 ∧ Below w.heap.size w wr) (fun _ _ => 0)
  case atStart => exact ⟨rfl, Below.refl _ _⟩
  case round =>
    obtain ⟨rfl, hbel⟩ := hrel
    have HB := Lib.hid hbel
    clear hbel
    have hsz := HB.out.size
    go_wp2_with (at_make; refine wpList_make_full _ rfl _ _ 93 rfl w.heap.size 176 i1 (.slice none 0 0) 1 Tryz.underlying93 hi1 hs0 hs1 .i64 .i64 _ _ 0 rfl rfl rfl rfl (by rw [hs2]; omega) (by unfold maxLen; omega) hsz ?_; intro w1 hown1 hg1)
    have HB := Lib.hid (HB.out.grown hg1 hsz (fun k hk => by simp at hk))
    clear hown1 hg1 hsz
    go_wp2
    go_loopw [6] (fun i wr => i = .int .i64 0 ∧ Below w.heap.size w wr) (fun _ _ => 0)
    case atStart => exact ⟨rfl, HB.out⟩
    case round =>
      obtain ⟨rfl, hbel⟩ := hrel
      have HB := Lib.hid hbel
      clear hbel
      go_wp2
      go_loopw [9] (fun i wr => i = .int .i64 0 ∧ Below w.heap.size w wr) (fun _ _ => 0)
      case atStart => exact ⟨rfl, HB.out⟩
      case round =>
        obtain ⟨rfl, hbel⟩ := hrel
        have HB := Lib.hid hbel
        clear hbel
        go_wp2
        go_loopw [11] (fun i wr => i = .int .i64 0 ∧ Below w.heap.size w wr) (fun _ _ => 0)
        case atStart => exact ⟨rfl, HB.out⟩
        case round =>
          obtain ⟨rfl, hbel⟩ := hrel
          have HB := Lib.hid hbel
          clear hbel
          go_wp2
          go_loopw [14] (fun i wr => i = .int .i64 0 ∧ Below w.heap.size w wr) (fun _ _ => 0)
          case atStart => exact ⟨rfl, HB.out⟩
          case round =>
            obtain ⟨rfl, hbel⟩ := hrel
            have HB := Lib.hid hbel
            clear hbel
            go_wp2
            go_ret
            exact ⟨rfl, HB.out⟩
theorem Tryz.infoNEvents : (Tryz.prog.info? 181).map (fun i => (i.zero, i.size, i.bytes)) = some (some (.slice none 0 0), 1, 24) := by kernel_rfl
set_option maxRecDepth 100000 in
set_option maxHeartbeats 2000000 in
theorem nilEvents_any (w : World) : Calls Tryz.prog 101 #[.slice none 0 0] w fun e w' => e = .returned (.bool true) ∧ Below w.heap.size w w' := by
  obtain ⟨i1, hi1, hs0, hs1, hs2⟩ := info_parts Tryz.infoNEvents
  go_enter Tryz.func101, Tryz.ntmps101
  go_wp2
  go_loopw [3] (fun i wr => i = .int .i64 0 ∧ Below w.heap.size w wr) (fun _ _ => 0)
  case atStart => exact ⟨rfl, Below.refl _ _⟩
  case round =>
    obtain ⟨rfl, hbel⟩ := hrel
    have HB := Lib.hid hbel
    clear hbel
    have hsz := HB.out.size
    go_wp2_with (at_make; refine wpList_make_full _ rfl _ _ 94 rfl w.heap.size 181 i1 (.slice none 0 0) 1 Tryz.underlying94 hi1 hs0 hs1 .i64 .i64 _ _ 0 rfl rfl rfl rfl (by rw [hs2]; omega) (by unfold maxLen; omega) hsz ?_; intro w1 hown1 hg1)
    have HB := Lib.hid (HB.out.grown hg1 hsz (fun k hk => by simp at hk))
    clear hown1 hg1 hsz
    go_wp2
    go_loopw [6] (fun i wr => i = .int .i64 0 ∧ Below w.heap.size w wr) (fun _ _ => 0)
    case atStart => exact ⟨rfl, HB.out⟩
    case round =>
      obtain ⟨rfl, hbel⟩ := hrel
      have HB := Lib.hid hbel
      clear hbel
      go_wp2
      go_loopw [9] (fun i wr => i = .int .i64 0 ∧ Below w.heap.size w wr) (fun _ _ => 0)
      case atStart => exact ⟨rfl, HB.out⟩
      case round =>
        obtain ⟨rfl, hbel⟩ := hrel
        have HB := Lib.hid hbel
        clear hbel
        go_wp2
        go_loopw [11] (fun i wr => i = .int .i64 0 ∧ Below w.heap.size w wr) (fun _ _ => 0)
        case atStart => exact ⟨rfl, HB.out⟩
        case round =>
          obtain ⟨rfl, hbel⟩ := hrel
          have HB := Lib.hid hbel
          clear hbel
          go_wp2
          go_loopw [14] (fun i wr => i = .int .i64 0 ∧ Below w.heap.size w wr) (fun _ _ => 0)
          case atStart => exact ⟨rfl, HB.out⟩
          case round =>
            obtain ⟨rfl, hbel⟩ := hrel
            have HB := Lib.hid hbel
            clear hbel
            go_wp2
            go_ret
            exact ⟨rfl, HB.out⟩
theorem Tryz.infoNInts : (Tryz.prog.info? 27).map (fun i => (i.zero, i.size, i.bytes)) = some (some (.slice none 0 0), 1, 24) := by kernel_rfl
set_option maxRecDepth 100000 in
set_option maxHeartbeats 2000000 in
theorem nilInts_any (w : World) : Calls Tryz.prog 90 #[.slice none 0 0] w fun e w' => e = .returned (.bool true) ∧ Below w.heap.size w w' := by
  obtain ⟨i1, hi1, hs0, hs1, hs2⟩ := info_parts Tryz.infoNInts
  go_enter Tryz.func90, Tryz.ntmps90
  go_wp2
  go_loopw [3] (fun i wr => i = .int .i64 0 ∧ Below w.heap.size w wr) (fun _ _ => 0)
  case atStart => exact ⟨rfl, Below.refl _ _⟩
  case round =>
    obtain ⟨rfl, hbel⟩ := hrel
    have HB := Lib.hid hbel
    clear hbel
    have hsz := HB.out.size
    go_wp2_with (at_make; refine wpList_make_full _ rfl _ _ 38 rfl w.heap.size 27 i1 (.slice none 0 0) 1 Tryz.underlying38 hi1 hs0 hs1 .i64 .i64 _ _ 0 rfl rfl rfl rfl (by rw [hs2]; omega) (by unfold maxLen; omega) hsz ?_; intro w1 hown1 hg1)
    have HB := Lib.hid (HB.out.grown hg1 hsz (fun k hk => by simp at hk))
    clear hown1 hg1 hsz
    go_wp2
    go_loopw [6] (fun i wr => i = .int .i64 0 ∧ Below w.heap.size w wr) (fun _ _ => 0)
    case atStart => exact ⟨rfl, HB.out⟩
    case round =>
      obtain ⟨rfl, hbel⟩ := hrel
      have HB := Lib.hid hbel
      clear hbel
      go_wp2
      go_loopw [9] (fun i wr => i = .int .i64 0 ∧ Below w.heap.size w wr) (fun _ _ => 0)
      case atStart => exact ⟨rfl, HB.out⟩
      case round =>
        obtain ⟨rfl, hbel⟩ := hrel
        have HB := Lib.hid hbel
        clear hbel
        go_wp2
        go_loopw [11] (fun i wr => i = .int .i64 0 ∧ Below w.heap.size w wr) (fun _ _ => 0)
        case atStart => exact ⟨rfl, HB.out⟩
        case round =>
          obtain ⟨rfl, hbel⟩ := hrel
          have HB := Lib.hid hbel
          clear hbel
          go_wp2
          go_loopw [14] (fun i wr => i = .int .i64 0 ∧ Below w.heap.size w wr) (fun _ _ => 0)
          case atStart => exact ⟨rfl, HB.out⟩
          case round =>
            obtain ⟨rfl, hbel⟩ := hrel
            have HB := Lib.hid hbel
            clear hbel
            go_wp2
            go_ret
            exact ⟨rfl, HB.out⟩
theorem Tryz.infoNTwigs : (Tryz.prog.info? 22).map (fun i => (i.zero, i.size, i.bytes)) = some (some (.slice none 0 0), 1, 24) := by kernel_rfl
set_option maxRecDepth 100000 in
set_option maxHeartbeats 2000000 in
theorem nilTwigs_any (w : World) : Calls Tryz.prog 95 #[.slice none 0 0] w fun e w' => e = .returned (.bool true) ∧ Below w.heap.size w w' := by
  obtain ⟨i1, hi1, hs0, hs1, hs2⟩ := info_parts Tryz.infoNTwigs
  go_enter Tryz.func95, Tryz.ntmps95
  go_wp2
  go_loopw [3] (fun i wr => i = .int .i64 0 ∧ Below w.heap.size w wr) (fun _ _ => 0)
  case atStart => exact ⟨rfl, Below.refl _ _⟩
  case round =>
    obtain ⟨rfl, hbel⟩ := hrel
    have HB := Lib.hid hbel
    clear hbel
    have hsz := HB.out.size
    go_wp2_with (at_make; refine wpList_make_full _ rfl _ _ 40 rfl w.heap.size 22 i1 (.slice none 0 0) 1 Tryz.underlying40 hi1 hs0 hs1 .i64 .i64 _ _ 0 rfl rfl rfl rfl (by rw [hs2]; omega) (by unfold maxLen; omega) hsz ?_; intro w1 hown1 hg1)
    have HB := Lib.hid (HB.out.grown hg1 hsz (fun k hk => by simp at hk))
    clear hown1 hg1 hsz
    go_wp2
    go_loopw [6] (fun i wr => i = .int .i64 0 ∧ Below w.heap.size w wr) (fun _ _ => 0)
    case atStart => exact ⟨rfl, HB.out⟩
    case round =>
      obtain ⟨rfl, hbel⟩ := hrel
      have HB := Lib.hid hbel
      clear hbel
      go_wp2
      go_loopw [9] (fun i wr => i = .int .i64 0 ∧ Below w.heap.size w wr) (fun _ _ => 0)
      case atStart => exact ⟨rfl, HB.out⟩
      case round =>
        obtain ⟨rfl, hbel⟩ := hrel
        have HB := Lib.hid hbel
        clear hbel
        go_wp2
        go_loopw [11] (fun i wr => i = .int .i64 0 ∧ Below w.heap.size w wr) (fun _ _ => 0)
        case atStart => exact ⟨rfl, HB.out⟩
        case round =>
          obtain ⟨rfl, hbel⟩ := hrel
          have HB := Lib.hid hbel
          clear hbel
          go_wp2
          go_loopw [14] (fun i wr => i = .int .i64 0 ∧ Below w.heap.size w wr) (fun _ _ => 0)
          case atStart => exact ⟨rfl, HB.out⟩
          case round =>
            obtain ⟨rfl, hbel⟩ := hrel
            have HB := Lib.hid hbel
            clear hbel
            go_wp2
            go_ret
            exact ⟨rfl, HB.out⟩
end Go.Proofs.YtadkjjpopmiceaaGreat
