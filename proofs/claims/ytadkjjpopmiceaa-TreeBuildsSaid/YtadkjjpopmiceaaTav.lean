/-
  tree: slices.Clone, Contains; parts of rows.
-/
import Derived.Test.YtadkjjpopmiceaaTau
import Derived.WalkSpells
namespace Go.Proofs.Ytadkjjpopmiceaa
open Go.RowKit Go.Lib

/-- a part of a row. -/
theorem own_part {w : World} {B g n cap : Nat} {l : List Tw} (h : w.ownsRow B 32 5 (.slice (some ⟨g, 0, none⟩) n cap) n (tvs l)) (i j off c : Nat) (hij : i ≤ j) (hj : j ≤ n) (ho : i = j ∨ off = i * 5) (hc : j - i ≤ c ∧ c ≤ maxLen) :
    TwAt w (.slice (some ⟨g, off, none⟩) (j - i) c) ((l.take j).drop i) := by
  have hn := own_rowsC twc_len (by omega) h
  obtain ⟨-, hb, cur, hg, h1, h2, -⟩ := own_open h
  have hl : ((l.take j).drop i).length = j - i := by rw [List.length_drop, List.length_take]; omega
  refine ⟨some ⟨g, off, none⟩, g, off, c, by rw [List.length_map, hl], by rw [List.length_map, hl]; exact hc.1, hc.2, (fun h => by cases h), fun _ => ⟨rfl, lt_of_block hg⟩, fun e he => ?_, fun k hk q hq => ?_⟩
  · obtain ⟨x, -, rfl⟩ := List.mem_map.1 he
    rfl
  · rw [List.length_map] at hk
    rw [hl] at hk
    rcases ho with ho | rfl
    · omega
    · have hil : i + k < l.length := by omega
      have := (own_cellC twc_len h (i + k) hil q hq).1
      simp only [List.getElem_map, List.getElem_drop, List.getElem_take]
      rw [← this]
      congr 2
      rw [Nat.add_mul]
theorem TwAt.nil (w : World) : TwAt w (.slice none 0 0) [] := ⟨none, 0, 0, 0, rfl, Nat.le_refl _, Nat.zero_le _, fun _ => ⟨rfl, rfl⟩, (fun h => absurd h (by simp)), (fun e he => by simp at he), fun i hi => by simp at hi⟩
theorem TwOwn.tw {B : Nat} {w : World} {v : Value} {l : List Tw} (h : TwOwn B w v l) : TwAt w v l := by
  unfold TwOwn at h
  rcases h.2 with ⟨rfl, h0⟩ | ⟨g, cap, cur, rfl, -, -, h1, h2, -⟩
  · obtain rfl : l = [] := List.eq_nil_of_length_eq_zero h0
    exact TwAt.nil w
  · have := own_part h 0 l.length 0 cap (Nat.zero_le _) (Nat.le_refl _) (.inr rfl) ⟨by omega, h2⟩
    simpa using this
theorem tw_empty (w : World) (c : Nat) (hc : c ≤ maxLen) (g off : Nat) (_hg : g < w.heap.size) : TwAt w (.slice (some ⟨g, off, none⟩) 0 c) [] := ⟨some ⟨g, off, none⟩, g, off, c, rfl, Nat.zero_le _, hc, (fun h => by cases h), fun h => absurd h (by simp), (fun e he => by simp at he), fun i hi => by simp at hi⟩
set_option maxRecDepth 100000 in
set_option maxHeartbeats 1000000 in
theorem tClone_any {l : List Tw} (v : Value) (w : World) (h : TwAt w v l) (hl : l.length ≤ 1000000) :
    Calls Try.prog 56 #[v] w fun en w' => ToldT w l en w' := by
  obtain ⟨ao, cap, rfl⟩ := h.val
  obtain ⟨-, hlc, hcm, hnil, hnews⟩ := rows_news twc_len (by omega) h
  obtain ⟨n, hn⟩ : ∃ n, n = l.length := ⟨_, rfl⟩
  have HN := Lib.hid hn
  rw [← hn] at hl hnil h ⊢
  have H := Lib.hid h
  have Hnil := Lib.hid hnil
  clear h hn hnews hnil
  obtain ⟨i0, hi0, hz0, hz1, hz2⟩ := info_parts Try.infoTwig
  have qT : ∀ (w : World) (a : Option Addr) (n c : Nat), (binOp .eql 76 (.slice a n c) (.slice none 0 0)).run Try.prog w = .ok (.bool a.isNone) w := fun w a n c => Lib.run_eql_slice_nil w _ _ a n c 0 0 Try.underlying76
  cases ao with
  | none =>
    obtain ⟨h0, h1⟩ := Hnil.out rfl
    subst h0
    subst h1
    have HNl := Lib.hid (show l = [] from List.eq_nil_of_length_eq_zero HN.out.symm)
    go_enter Try.func56, Try.ntmps56
    go_wp2
    go_ret
    rw [HNl.out]
    exact ⟨_, rfl, World.ownsRow_nil _ _ _ _, Below.refl _ _⟩
  | some ad =>
    have hal : Below w.heap.size w (w.alloc (.cells #[] 32)) := (Below.refl _ _).alloc (Nat.le_refl _) _
    obtain ⟨-, -, -, -, hnews⟩ := rows_news twc_len (by omega) (H.out.later hal)
    have HNews := Lib.hid hnews
    have HOwn := Lib.hid (show (w.alloc (.cells #[] 32)).ownsRow w.heap.size 32 5 (.slice (some ⟨w.heap.size, 0, none⟩) 0 0) 0 [] from own_shut rfl (Nat.le_refl _) (heap_alloc_new w _) (Nat.le_refl _) (Nat.zero_le _) rfl rfl)
    have HHal := Lib.hid hal
    clear hnews hal
    go_enter Try.func56, Try.ntmps56
    go_wp2_with (at_builtin; refine wpList_append_mine _ rfl (.tmp 5) (.tmp 6) 76 rfl w.heap.size 32 i0 _ 5 40 Try.underlying76 hi0 hz0 hz1 hz2 rfl (by decide) _ 0 [] rfl HOwn.out (some ad) n cap (tvs l) rfl (by rw [flat_len twc_len, HN.out]) (fun h => by cases h) HNews.out (flat_one twc_one l) (by unfold maxLen; omega) (by omega) (by simp) ?_; intro v' w1 hown' hgrow hfr; obtain ⟨aov, capv, rfl⟩ := own_val hown'; have HO := Lib.hid hown'; have HG := Lib.hid hgrow; clear hown' hgrow hfr)
    go_ret
    refine ⟨_, rfl, ?_, HHal.out.grown HG.out HHal.out.size (fun r hr => by cases hr; exact Nat.le_refl _)⟩
    unfold TwOwn
    rw [← HN.out]
    have := HO.out
    simpa using this
/-- a number is one of some. -/
def anyN (rs : List Nat) (x : Int) : Bool := rs.any fun r => (r : Int) == x
def IdxI (rs : List Nat) (x : Int) (e : Ending) : Prop := ∃ r : Int, e = .returned (.int .i64 r) ∧ ((anyN rs x = false ∧ r = -1) ∨ (anyN rs x = true ∧ 0 ≤ r))
set_option maxRecDepth 100000 in
set_option maxHeartbeats 1000000 in
theorem index_any (B : Nat) (v : Value) (rs : List Nat) (x : Int) (w : World) (h : OwnN B w v rs) :
    Calls Try.prog 87 #[v, .int .i64 x] w fun e w' => IdxI rs x e ∧ w = w' := by
  have hcA := own_cells (nats_one rs) (by unfold OwnN at h; exact h)
  obtain ⟨ao, b, off, cap, rfl, hlc, hm, -, hao, -, hcc⟩ := hcA
  simp only [List.length_map] at hlc hao hcc ⊢
  unfold maxLen at hm
  obtain ⟨n, hn⟩ : ∃ n, n = rs.length := ⟨_, rfl⟩
  have HN := Lib.hid hn
  have HA := Lib.hid hao
  have HCC := Lib.hid hcc
  rw [← hn] at hlc ⊢
  clear h hao hcc hn
  go_enter Try.func87, Try.ntmps87
  go_wp2
  go_loop [8] (fun i => ∃ k : Nat, k ≤ n ∧ i = .int .i64 k ∧ Hid (anyN (rs.take k) x = false)) (fun i => n - (intOf i).toNat)
  case atStart => exact ⟨0, Nat.zero_le _, rfl, Lib.hid (by simp [anyN])⟩
  case round =>
    obtain ⟨k, hk, rfl, HT⟩ := hrel
    by_cases hlt : k < n
    · have hlt2 : (k : Int) < n := by omega
      have hkE : k < rs.length := by rw [← HN.out]; exact hlt
      have hao := HA.out (by omega)
      subst hao
      have c0 := HCC.out k hkE
      obtain ⟨y, hy⟩ : ∃ y, y = rs[k] := ⟨_, rfl⟩
      simp only [List.getElem_map, ← hy] at c0
      have HY := Lib.hid hy
      clear hy
      by_cases hq : (y : Int) = x
      · have hq1 : (x == (y : Int)) = true := by simp [hq]
        have hq2 : ((y : Int) == x) = true := by simp [hq]
        have HQ := Lib.hid hq
        clear hq
        go_wp2
        go_ret
        refine ⟨⟨k, rfl, .inr ⟨?_, by omega⟩⟩, rfl⟩
        unfold anyN
        rw [List.any_eq_true]
        exact ⟨rs[k], List.getElem_mem _, by rw [← HY.out]; exact hq2⟩
      · have hq1 : (x == (y : Int)) = false := by simp; omega
        have hq2 : ((y : Int) == x) = false := by simp; omega
        have HQ := Lib.hid hq2
        clear hq
        go_wp2
        go_round
        case rel => exact ⟨k + 1, by omega, by go_num, Lib.hid (by
          have := HT.out
          unfold anyN at this ⊢
          rw [List.take_succ_eq_append_getElem hkE, List.any_append, this, ← HY.out]
          simp [HQ.out])⟩
        case measure => simp [intOf]; omega
    · have hlt2 : ¬ (k : Int) < n := by omega
      go_wp2
      go_ret
      refine ⟨⟨-1, rfl, .inl ⟨?_, rfl⟩⟩, rfl⟩
      have := HT.out
      rwa [List.take_of_length_le (by rw [← HN.out]; omega)] at this
theorem contains_any (B : Nat) (v : Value) (rs : List Nat) (x : Int) (w : World) (h : OwnN B w v rs) :
    Calls Try.prog 73 #[v, .int .i64 x] w fun e w' => e = .returned (.bool (anyN rs x)) ∧ w = w' := by
  have HI := Lib.hid (index_any B v rs x w h)
  clear h
  go_enter Try.func73, Try.ntmps73
  go_wp2_with fail
  refine HI.out.mono ?_
  rintro e w' ⟨⟨r, rfl, hr⟩, rfl⟩
  have HR := Lib.hid hr
  clear hr
  rcases HR.out with ⟨h1, rfl⟩ | ⟨h1, h2⟩
  all_goals
    have H1 := Lib.hid h1
    clear h1
    go_wp2
    go_ret
    exact ⟨ret_bool (by rw [H1.out]; try (simp; try omega)), rfl⟩
end Go.Proofs.Ytadkjjpopmiceaa
