/-
  Package far: a record's methods: End, New; the law's small helpers.
-/
import Derived.Test.YtfhgmnlhmfnckaaFarF
namespace Go.Proofs.Ytfhgmnlhmfnckaa
open Go.RowKit Go.Lib

theorem part_field0 (f u0 u1 u2 u3 : Int) (w : World) : (Instr.field 62 (.agg #[.int .i64 f, .int .u64 u0, .int .u64 u1, .int .u64 u2, .int .u64 u3]) 0).run Try.prog w = .ok (.int .i64 f) w := by kernel_rfl
theorem endP_fresh {q p : Part} (h : p = (-1, clNone)) : endP q p = q := by subst h; rfl

set_option maxHeartbeats 400000 in
theorem far_End {H : Nat → Prop} {a : Nat} {init : List Part} {q p : Part} {W : List UInt8} (w : World) (h : Far H w a (init ++ [q] ++ [p]) W) (hn : init.length ≤ 900000) (hp : p = (-1, clNone) ∨ 0 ≤ p.1) :
    Calls Try.prog 15 #[.pointer (some ⟨a, 0, none⟩)] w fun e w' => e = .returned (.tuple #[.int .i64 p.1, .int .i64 0]) ∧ Far H w' a (init ++ [endP q p]) W ∧ Keeps H w w' := by
  obtain ⟨g, cap, c0, hcap, hm⟩ := h.cell0
  have hlen : (init ++ [q]).length = init.length + 1 := by simp
  rw [hlen] at c0 hcap
  have hmade := Lib.hid (far_made w a (init.length + 1 + 1) cap _ c0 (by omega))
  have hend : Hid (∃ u0 u1 u2 u3 : Int, Calls Try.prog 42 #[.pointer (some ⟨a, 0, none⟩)] w fun e w' => e = .returned (.agg #[.int .i64 p.1, .int .u64 u0, .int .u64 u1, .int .u64 u2, .int .u64 u3]) ∧ EndPost H a init q p W w w') := by
    refine Lib.hid ?_
    rcases hp with rfl | hp
    · exact ⟨_, _, _, _, far_end_fresh w h hn⟩
    · exact ⟨_, _, _, _, far_end_far w h hn hp⟩
  obtain ⟨u0, u1, u2, u3, hend'⟩ := hend.out
  have Hend := Lib.hid hend'
  clear h hlen hend hend' hp
  have hfld := part_field0
  have hne1 : (((init.length + 1 + 1 : Nat) : Int) == 1) = false := by simp; omega
  have hne2 : ((init.length : Int) + 1 + 1 == 1) = false := by simp; omega
  go_enter Try.func15, Try.ntmps15
  go_wp2_with fail
  refine hmade.out.mono ?_
  rintro e w' ⟨rfl, rfl⟩
  go_wp2_with fail
  refine Hend.out.mono ?_
  rintro e w1 ⟨rfl, hE⟩
  have HE := Lib.hid hE
  clear hE
  go_wp2
  go_ret2
  exact ⟨rfl, HE.out⟩

set_option maxHeartbeats 400000 in
theorem far_End_one {H : Nat → Prop} {a : Nat} {p : Part} {W : List UInt8} (w : World) (h : Far H w a ([] ++ [p]) W) :
    Calls Try.prog 15 #[.pointer (some ⟨a, 0, none⟩)] w fun e w' => e = .returned (.tuple #[.int .i64 0, .int .i64 5]) ∧ w = w' := by
  obtain ⟨g, cap, c0, hcap, hm⟩ := h.cell0
  have hmade := Lib.hid (far_made w a 1 cap _ c0 (by omega))
  have hc0 : w.cell? ⟨a, 0, none⟩ = some (.slice (some ⟨g, 0, none⟩) 1 cap) := c0
  clear h c0 hcap
  go_enter Try.func15, Try.ntmps15
  go_wp2_with fail
  refine hmade.out.mono ?_
  rintro e w' ⟨rfl, rfl⟩
  go_wp2
  go_ret2
  exact ⟨rfl, rfl⟩

set_option maxHeartbeats 400000 in
theorem bytes_clone (w : World) (v : Value) (l : List UInt8) (hv : BytesAt w v l) (hl : l.length ≤ 1000000) :
    Calls Try.prog 36 #[v] w fun e w' => ∃ v', e = .returned v' ∧ w'.ownsRow w.heap.size 5 1 v' l.length (bv l) ∧ Below w.heap.size w w' := by
  have HV := Lib.hid hv
  obtain ⟨ao, b, off, cap, rfl, hlc, hm, hnil, hao, hc⟩ := hv
  have qT : ∀ (w : World) (a : Option Addr) (n c n' c' : Nat), (binOp .eql 22 (.slice a n c) (.slice none n' c')).run Try.prog w = .ok (.bool a.isNone) w := fun w a n c n' c' => Lib.run_eql_slice_nil w _ _ a n c n' c' Try.underlying22
  obtain ⟨i0, hi, hz0, hz1, hz2⟩ := info_parts Try.info5
  cases ao with
  | none =>
    obtain ⟨h1, rfl⟩ := hnil rfl
    have hl0 : l = [] := List.eq_nil_of_length_eq_zero h1
    subst hl0
    clear hnil hao hc
    go_enter Try.func36, Try.ntmps36
    go_wp2
    go_ret
    exact ⟨_, rfl, World.ownsRow_nil _ _ _ _, Below.refl _ _⟩
  | some ad =>
    clear hnil
    go_enter Try.func36, Try.ntmps36
    have hbl : 0 < l.length → b < w.heap.size := fun h => World.block_lt_of_cell? _ _ (hc 0 h)
    have hc' := fun k (hk : k < l.length) => (World.cell?_alloc_old w (.cells #[] 5 (0, 0)) ⟨b, off + k, none⟩ (by have := hbl (by omega); simp; omega)).trans (hc k hk)
    have Hnew := Lib.hid (bytes_news (w := w.alloc (.cells #[] 5 (0, 0))) hao hc')
    have hown : (w.alloc (.cells #[] 5 (0, 0))).ownsRow w.heap.size 5 1 (.slice (some ⟨w.heap.size, 0, none⟩) 0 0) 0 [] := ⟨by simp, .inr ⟨w.heap.size, 0, #[], rfl, Nat.le_refl _, heap_alloc_new _ _, Nat.le_refl _, by unfold maxLen; omega, by simp, by simp⟩⟩
    have Hown := Lib.hid hown
    clear hc hc' hao hown
    go_wp2_with (at_builtin; refine wpList_append_own_any _ rfl _ _ 22 rfl w.heap.size 5 i0 (.int .u8 0) 1 1 Try.underlying22 hi hz0 hz1 hz2 rfl (by decide) _ 0 [] rfl Hown.out (some ad) l.length cap (bv l) rfl (by simp [bv]) (fun h => by cases h) Hnew.out (bv_oneCell l) (by unfold maxLen; omega) (by omega) (by simp) ?_; intro v' w1 hown1 hg1)
    go_ret
    refine ⟨_, rfl, by simpa using hown1, ((Below.refl w.heap.size w).alloc (Nat.le_refl _) _).grown hg1 (by simp) (fun k hk => by cases hk; exact Nat.le_refl _)⟩

/-- what a record's maker leaves. -/
def NewPost (W : List UInt8) (w : World) (e : Ending) (w' : World) : Prop := ∃ a, e = .returned (.pointer (some ⟨a, 0, none⟩)) ∧ Far (fun k => w.heap.size ≤ k ∧ k < w'.heap.size) w' a ([] ++ [(-1, clNone)]) W ∧ Below w.heap.size w w'

set_option maxHeartbeats 400000 in
theorem far_New (w : World) (v : Value) (l : List UInt8) (hv : BytesAt w v l) (hl : l.length ≤ 1000000) :
    Calls Try.prog 9 #[v] w (NewPost l w) := by
  have HV := Lib.hid hv
  clear hv
  go_enter Try.func9, Try.ntmps9
  go_wp2_with fail
  refine (far_fresh _).mono ?_
  rintro e w1 ⟨rfl, hb1⟩
  have HB1 := Lib.hid hb1
  clear hb1
  go_wp2_with fail
  refine (bytes_clone _ v l (HV.out.later ?_) hl).mono ?_
  · exact HB1.out.alloc HB1.out.size _
  rintro e w2 ⟨v', rfl, hown, hb2⟩
  obtain ⟨ao', cap', rfl⟩ := own_val hown
  have HB2 := Lib.hid hb2
  have HO := Lib.hid hown
  clear hb2 hown
  go_wp2_with fail
  go_ret
  unfold NewPost
  have hs1 := HB1.out.size
  have hs2 := HB2.out.size
  simp only [World.size_alloc] at hs2
  have hblk : w2.heap[w1.heap.size]? = some (.cells #[.int .i64 (-1), .int .u64 0, .int .u64 0, .int .u64 0, .int .u64 0] 62 (0, 0)) := (HB2.out.block _ (by simp)).trans (heap_alloc_new _ _)
  refine ⟨w2.heap.size, rfl, ⟨fun k hk => hk.2, ⟨by omega, by simp⟩, _, _, heap_alloc_new _ _, ?_, ?_, ?_, ?_⟩, ?_⟩
  · refine ⟨by rw [pcells_len], .inr ⟨w1.heap.size, 1, _, rfl, Nat.zero_le _, (Below.heap_alloc _ _ _ (by omega)).trans hblk, Nat.le_refl _, by unfold maxLen; omega, by simp, ?_⟩⟩
    rw [List.nil_append, pcells_one, pcs_fresh]
    rfl
  · exact (ownsRow_base HO.out (Nat.zero_le _)).alloc _
  · intro k hk
    cases hk
    exact ⟨hs1, by simp; omega⟩
  · intro k hk
    obtain ⟨h1, h2⟩ := HO.out.lt k hk
    simp only [World.size_alloc] at h1 ⊢
    omega
  · exact ((HB1.out.alloc hs1 _).trans (HB2.out.mono (by simp; omega))).alloc (by omega) _
end Go.Proofs.Ytfhgmnlhmfnckaa
