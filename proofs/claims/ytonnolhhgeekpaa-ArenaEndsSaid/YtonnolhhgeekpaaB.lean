/-
  Arena: arenas of which nobody else has a part; Pick; the chapter's example.
-/
import Derived.Test.YtonnolhhgeekpaaA
import Derived.Test.YtonnolhhgeekpaaAS
import Derived.Test.YtonnolhhgeekpaaInts
namespace Go.Proofs.Ytonnolhhgeekpaa
open Go.RowKit

/-! ### one arena alone: arena.Arena[int] -/
def IOne (B : Nat) (w : World) (x : Nat) (xs : List Value) (most peak : Nat) : Prop := B ≤ x ∧ B ≤ w.heap.size ∧ ∃ v, IAr B w x v xs most peak
theorem IOne.later {B : Nat} {w w' : World} {x : Nat} {xs : List Value} {most peak : Nat} (h : IOne B w x xs most peak) (hk : Below w.heap.size w w') : IOne B w' x xs most peak :=
  let ⟨h1, h2, v, h3⟩ := h; ⟨h1, Nat.le_trans h2 hk.size, v, h3.later hk⟩
theorem IOne.now {B : Nat} {w w' : World} {x : Nat} {v : Value} {xs ys : List Value} {most peak p2 : Nat} (h1 : B ≤ x) (h2 : B ≤ w.heap.size) (h3 : IAr B w x v xs most peak) (h : INow B w x v ys most p2 w') : IOne B w' x ys most p2 ∧ Below B w w' := by
  obtain ⟨v', ha, hk, _⟩ := h
  have hb : Below B w w' := hk.below h2 (fun k hk => by rcases hk with rfl | hk; exact h1; exact (h3.2.1.lt k hk).1)
  exact ⟨⟨h1, Nat.le_trans h2 hb.size, v', ha⟩, hb⟩
theorem Iput1 {B : Nat} {x : Nat} {vl : Value} {xs ys : List Value} {most peak : Nat} (w : World) (h : IOne B w x xs most peak) (hy : CellsAt w vl ys) (hf : xs.length + ys.length ≤ most) (hl : xs.length + ys.length ≤ 1000000) :
    Calls Try.prog 9 #[.pointer (some ⟨x, 0, none⟩), vl] w fun e w' => e = .returned (.tuple #[.int .i64 xs.length, .int .i64 0]) ∧ IOne B w' x (xs ++ ys) most (max peak (xs ++ ys).length) ∧ Below B w w' := by
  obtain ⟨h1, h2, v, h3⟩ := h
  exact (Iput w h3 hy hf hl h2).mono fun e w' ⟨he, hn⟩ => ⟨he, IOne.now h1 h2 h3 hn⟩
theorem Iput1_full {B : Nat} {x : Nat} {vl : Value} {xs ys : List Value} {most peak : Nat} (w : World) (h : IOne B w x xs most peak) (hy : CellsAt w vl ys) (hf : most < xs.length + ys.length) :
    Calls Try.prog 9 #[.pointer (some ⟨x, 0, none⟩), vl] w fun e w' => e = .returned (.tuple #[.int .i64 0, .int .i64 12]) ∧ IOne B w' x xs most peak ∧ Below B w w' := by
  have h' := h
  obtain ⟨h1, h2, v, h3⟩ := h
  exact (Iput_full w h3 hy hf).mono fun e w' ⟨he, n, hn⟩ => by subst hn; exact ⟨he, h'.later (below_draws (Below.refl _ _) n), below_draws (Below.refl _ _) n⟩
theorem Ilen1 {B : Nat} {x : Nat} {xs : List Value} {most peak : Nat} (w : World) (h : IOne B w x xs most peak) : Calls Try.prog 12 #[.pointer (some ⟨x, 0, none⟩)] w fun e w' => e = .returned (.int .i64 xs.length) ∧ w = w' :=
  let ⟨_, _, _, h3⟩ := h; Ilen w h3
theorem Imark1 {B : Nat} {x : Nat} {xs : List Value} {most peak : Nat} (w : World) (h : IOne B w x xs most peak) : Calls Try.prog 10 #[.pointer (some ⟨x, 0, none⟩)] w fun e w' => e = .returned (.int .i64 xs.length) ∧ w = w' :=
  let ⟨_, _, _, h3⟩ := h; Imark w h3
theorem Ipeak1 {B : Nat} {x : Nat} {xs : List Value} {most peak : Nat} (w : World) (h : IOne B w x xs most peak) : Calls Try.prog 15 #[.pointer (some ⟨x, 0, none⟩)] w fun e w' => e = .returned (.int .i64 peak) ∧ w = w' :=
  let ⟨_, _, _, h3⟩ := h; Ipeak w h3
theorem Ileft1 {B : Nat} {x : Nat} {xs : List Value} {most peak : Nat} (w : World) (h : IOne B w x xs most peak) : Calls Try.prog 13 #[.pointer (some ⟨x, 0, none⟩)] w fun e w' => e = .returned (.int .i64 ((most : Int) - xs.length)) ∧ ∃ m, w' = w.drewN m :=
  let ⟨_, _, _, h3⟩ := h; Ileft w h3
theorem Iat1 {B : Nat} {x : Nat} {xs : List Value} {most peak : Nat} (w : World) (k : Int) (h : IOne B w x xs most peak) : Calls Try.prog 16 #[.pointer (some ⟨x, 0, none⟩), .int .i64 k] w fun e w' => e = .returned (.tuple #[if 0 ≤ k then xs.getD k.toNat (.int .i64 0) else .int .i64 0, .bool (decide (0 ≤ k ∧ k < xs.length))]) ∧ w = w' :=
  let ⟨_, _, _, h3⟩ := h; Iat w k h3
theorem Iback1 {B : Nat} {x : Nat} {zs : List Int} {most peak : Nat} (w : World) (m : Nat) (h : IOne B w x (zs.map (Value.int .i64)) most peak) (hk : m ≤ zs.length) :
    Calls Try.prog 14 #[.pointer (some ⟨x, 0, none⟩), .int .i64 m] w fun e w' => e = .returned (.int .i64 0) ∧ IOne B w' x ((zs.take m).map (Value.int .i64)) most peak ∧ Below B w w' := by
  obtain ⟨h1, h2, v, h3⟩ := h
  exact (Iback w m h3 hk).mono fun e w' ⟨he, hn⟩ => ⟨he, IOne.now h1 h2 h3 hn⟩
theorem Iback1_out {B : Nat} {x : Nat} {xs : List Value} {most peak : Nat} (w : World) (k : Int) (h : IOne B w x xs most peak) (hk : k < 0 ∨ xs.length < k) : Calls Try.prog 14 #[.pointer (some ⟨x, 0, none⟩), .int .i64 k] w fun e w' => e = .returned (.int .i64 6) ∧ w = w' :=
  let ⟨_, _, _, h3⟩ := h; Iback_out w k h3 hk
theorem Inew1 (k : Nat) (w : World) (hk : k ≤ 9223372036854775807) : Calls Try.prog 8 #[.int .i64 k] w fun e w' => ∃ x, e = .returned (.pointer (some ⟨x, 0, none⟩)) ∧ IOne w.heap.size w' x [] k 0 ∧ Below w.heap.size w w' :=
  (Inew k w hk).mono fun _e _w' ⟨he, ha, hb⟩ => ⟨_, he, ⟨Nat.le_refl _, hb.size, _, ha⟩, hb⟩

/-! ### one arena alone: arena.Arena[string] -/
def SOne (B : Nat) (w : World) (x : Nat) (xs : List Value) (most peak : Nat) : Prop := B ≤ x ∧ B ≤ w.heap.size ∧ ∃ v, SAr B w x v xs most peak
theorem SOne.later {B : Nat} {w w' : World} {x : Nat} {xs : List Value} {most peak : Nat} (h : SOne B w x xs most peak) (hk : Below w.heap.size w w') : SOne B w' x xs most peak :=
  let ⟨h1, h2, v, h3⟩ := h; ⟨h1, Nat.le_trans h2 hk.size, v, h3.later hk⟩
theorem SOne.now {B : Nat} {w w' : World} {x : Nat} {v : Value} {xs ys : List Value} {most peak p2 : Nat} (h1 : B ≤ x) (h2 : B ≤ w.heap.size) (h3 : SAr B w x v xs most peak) (h : SNow B w x v ys most p2 w') : SOne B w' x ys most p2 ∧ Below B w w' := by
  obtain ⟨v', ha, hk, _⟩ := h
  have hb : Below B w w' := hk.below h2 (fun k hk => by rcases hk with rfl | hk; exact h1; exact (h3.2.1.lt k hk).1)
  exact ⟨⟨h1, Nat.le_trans h2 hb.size, v', ha⟩, hb⟩
theorem Sput1 {B : Nat} {x : Nat} {vl : Value} {xs ys : List Value} {most peak : Nat} (w : World) (h : SOne B w x xs most peak) (hy : CellsAt w vl ys) (hf : xs.length + ys.length ≤ most) (hl : xs.length + ys.length ≤ 1000000) :
    Calls Try.prog 29 #[.pointer (some ⟨x, 0, none⟩), vl] w fun e w' => e = .returned (.tuple #[.int .i64 xs.length, .int .i64 0]) ∧ SOne B w' x (xs ++ ys) most (max peak (xs ++ ys).length) ∧ Below B w w' := by
  obtain ⟨h1, h2, v, h3⟩ := h
  exact (Sput w h3 hy hf hl h2).mono fun e w' ⟨he, hn⟩ => ⟨he, SOne.now h1 h2 h3 hn⟩
theorem Sput1_full {B : Nat} {x : Nat} {vl : Value} {xs ys : List Value} {most peak : Nat} (w : World) (h : SOne B w x xs most peak) (hy : CellsAt w vl ys) (hf : most < xs.length + ys.length) :
    Calls Try.prog 29 #[.pointer (some ⟨x, 0, none⟩), vl] w fun e w' => e = .returned (.tuple #[.int .i64 0, .int .i64 12]) ∧ SOne B w' x xs most peak ∧ Below B w w' := by
  have h' := h
  obtain ⟨h1, h2, v, h3⟩ := h
  exact (Sput_full w h3 hy hf).mono fun e w' ⟨he, n, hn⟩ => by subst hn; exact ⟨he, h'.later (below_draws (Below.refl _ _) n), below_draws (Below.refl _ _) n⟩
theorem Slen1 {B : Nat} {x : Nat} {xs : List Value} {most peak : Nat} (w : World) (h : SOne B w x xs most peak) : Calls Try.prog 33 #[.pointer (some ⟨x, 0, none⟩)] w fun e w' => e = .returned (.int .i64 xs.length) ∧ w = w' :=
  let ⟨_, _, _, h3⟩ := h; Slen w h3
theorem Smark1 {B : Nat} {x : Nat} {xs : List Value} {most peak : Nat} (w : World) (h : SOne B w x xs most peak) : Calls Try.prog 30 #[.pointer (some ⟨x, 0, none⟩)] w fun e w' => e = .returned (.int .i64 xs.length) ∧ w = w' :=
  let ⟨_, _, _, h3⟩ := h; Smark w h3
theorem Speak1 {B : Nat} {x : Nat} {xs : List Value} {most peak : Nat} (w : World) (h : SOne B w x xs most peak) : Calls Try.prog 34 #[.pointer (some ⟨x, 0, none⟩)] w fun e w' => e = .returned (.int .i64 peak) ∧ w = w' :=
  let ⟨_, _, _, h3⟩ := h; Speak w h3
theorem Sleft1 {B : Nat} {x : Nat} {xs : List Value} {most peak : Nat} (w : World) (h : SOne B w x xs most peak) : Calls Try.prog 43 #[.pointer (some ⟨x, 0, none⟩)] w fun e w' => e = .returned (.int .i64 ((most : Int) - xs.length)) ∧ ∃ m, w' = w.drewN m :=
  let ⟨_, _, _, h3⟩ := h; Sleft w h3
theorem Sat1 {B : Nat} {x : Nat} {xs : List Value} {most peak : Nat} (w : World) (k : Int) (h : SOne B w x xs most peak) : Calls Try.prog 32 #[.pointer (some ⟨x, 0, none⟩), .int .i64 k] w fun e w' => e = .returned (.tuple #[if 0 ≤ k then xs.getD k.toNat (.string ⟨#[]⟩) else .string ⟨#[]⟩, .bool (decide (0 ≤ k ∧ k < xs.length))]) ∧ w = w' :=
  let ⟨_, _, _, h3⟩ := h; Sat w k h3
theorem Sback1 {B : Nat} {x : Nat} {zs : List ByteArray} {most peak : Nat} (w : World) (m : Nat) (h : SOne B w x (zs.map Value.string) most peak) (hk : m ≤ zs.length) :
    Calls Try.prog 31 #[.pointer (some ⟨x, 0, none⟩), .int .i64 m] w fun e w' => e = .returned (.int .i64 0) ∧ SOne B w' x ((zs.take m).map Value.string) most peak ∧ Below B w w' := by
  obtain ⟨h1, h2, v, h3⟩ := h
  exact (Sback w m h3 hk).mono fun e w' ⟨he, hn⟩ => ⟨he, SOne.now h1 h2 h3 hn⟩
theorem Sback1_out {B : Nat} {x : Nat} {xs : List Value} {most peak : Nat} (w : World) (k : Int) (h : SOne B w x xs most peak) (hk : k < 0 ∨ xs.length < k) : Calls Try.prog 31 #[.pointer (some ⟨x, 0, none⟩), .int .i64 k] w fun e w' => e = .returned (.int .i64 6) ∧ w = w' :=
  let ⟨_, _, _, h3⟩ := h; Sback_out w k h3 hk
theorem Snew1 (k : Nat) (w : World) (hk : k ≤ 9223372036854775807) : Calls Try.prog 28 #[.int .i64 k] w fun e w' => ∃ x, e = .returned (.pointer (some ⟨x, 0, none⟩)) ∧ SOne w.heap.size w' x [] k 0 ∧ Below w.heap.size w w' :=
  (Snew k w hk).mono fun _e _w' ⟨he, ha, hb⟩ => ⟨_, he, ⟨Nat.le_refl _, hb.size, _, ha⟩, hb⟩

theorem cells_lit (w : World) (C : Array Value) (e : TypeId) (fr : Nat × Nat) (n : Nat) (hn : n = C.size) (h1 : ∀ u ∈ C.toList, u.oneCell' = true) (hm : n ≤ 1000000) : CellsAt (w.alloc (.cells C e fr)) (.slice (some ⟨w.heap.size, 0, none⟩) n n) C.toList := by
  subst hn
  refine ⟨_, w.heap.size, 0, C.size, by simp, by simp, by unfold maxLen; omega, fun h => by simp at h, fun _ => rfl, h1, fun k hk => ?_⟩
  rw [Nat.zero_add, cell_alloc_new]
  simp at hk
  simp [hk]

theorem pick_eq (x n : Int) (hn : 0 < n) : x % n = if x.tmod n < 0 then x.tmod n + n else x.tmod n := by
  have h0 := Int.emod_nonneg x (show n ≠ 0 by omega)
  have h3 := Int.emod_lt_of_pos x hn
  have ht := Int.tmod_eq_emod (a := x) (b := n)
  rw [ht]
  have hna : (n.natAbs : Int) = n := by omega
  split
  · rw [if_neg (by omega)]; omega
  · rename_i h
    rw [hna]
    have : x % n ≠ 0 := fun h' => h (Or.inr (Int.dvd_of_emod_eq_zero h'))
    rw [if_pos (by omega)]; omega

set_option maxHeartbeats 1000000 in
theorem pick_any (x n : Int) (w : World) (hn : 1 ≤ n ∧ n ≤ 1000000) (hx : (Lit.int .i64 x).wf = true) :
    Calls Try.prog 11 #[.int .i64 x, .int .i64 n] w fun e w' => e = .returned (.int .i64 (x % n)) ∧ w = w' := by
  have hb : -9223372036854775808 ≤ x ∧ x ≤ 9223372036854775807 := by simpa [Lit.wf, IntKind.min, IntKind.max, IntKind.signed, IntKind.bits] using hx
  obtain ⟨h1, h2⟩ := hn
  clear hx
  go_enter Try.func11, Try.ntmps11
  go_wp2
  · have ht : x.tmod n < 0 := by assumption
    go_ret
    have hp := pick_eq x n (by omega)
    rw [if_pos ht] at hp
    have h0 := Int.emod_nonneg x (show n ≠ 0 by omega)
    have h3 := Int.emod_lt_of_pos x (show 0 < n by omega)
    exact ⟨ret_int' (by rw [IntWalk.wrap64_in _ (by omega), hp]), rfl⟩
  · have ht : 0 ≤ x.tmod n := by assumption
    go_ret
    have hp := pick_eq x n (by omega)
    rw [if_neg (by omega)] at hp
    exact ⟨ret_int' hp.symm, rfl⟩

end Go.Proofs.Ytonnolhhgeekpaa
