/-
  tree.Build: what its methods do.
-/
import Derived.Test.YtadkjjpopmiceaaTaw
namespace Go.Proofs.Ytadkjjpopmiceaa
open Go.RowKit Go.Lib

/-- a builder in memory. -/
structure BuI (B : Nat) (w : World) (b x : Nat) (v : Value) (l : List Tw) (most peak : Nat) : Prop where
  blk : w.heap[b]? = some (.cells #[.pointer (some ⟨x, 0, none⟩)] 86 (0, 0))
  ar : TAr B w x v l most peak
  right : rightB l = true
  ok : ∀ t ∈ l, twOk t
  len : l.length ≤ 100000
  bb : B ≤ b
  bx : B ≤ x
  bw : B ≤ w.heap.size
theorem BuI.later {B : Nat} {w w' : World} {b x : Nat} {v : Value} {l : List Tw} {most peak : Nat} (h : BuI B w b x v l most peak) (hb : Below w.heap.size w w') : BuI B w' b x v l most peak :=
  ⟨(hb.block _ (lt_of_block h.blk)).trans h.blk, h.ar.later hb, h.right, h.ok, h.len, h.bb, h.bx, Nat.le_trans h.bw hb.size⟩
theorem BuI.ne {B : Nat} {w : World} {b x : Nat} {v : Value} {l : List Tw} {most peak : Nat} (h : BuI B w b x v l most peak) : b ≠ x ∧ v.ownBlock ≠ some b ∧ v.ownBlock ≠ some x := by
  refine ⟨fun e => ?_, own_ne' h.blk (by decide) h.ar.2.1, own_ne' h.ar.1 (by decide) h.ar.2.1⟩
  have h1 := h.blk
  rw [e, h.ar.1] at h1
  simp at h1
/-- the blocks that a builder's calls write. -/
def BuS (x : Nat) (v : Value) (k : Nat) : Prop := k = x ∨ v.ownBlock = some k
def BuN (B : Nat) (w : World) (b x : Nat) (v : Value) (l : List Tw) (most peak : Nat) (w' : World) : Prop :=
  ∃ v', BuI B w' b x v' l most peak ∧ Keeps (BuS x v) w w' ∧ (∀ k, v'.ownBlock = some k → v.ownBlock = some k ∨ w.heap.size ≤ k)
theorem BuN.self {B : Nat} {w w' : World} {b x : Nat} {v : Value} {l : List Tw} {most peak : Nat} (h : BuI B w b x v l most peak) (hb : Below w.heap.size w w') : BuN B w b x v l most peak w' :=
  ⟨v, h.later hb, Keeps.ofNew hb _, fun _ hk => .inl hk⟩
/-- ahead of it new memory was made. -/
theorem BuN.before {B : Nat} {w w1 w' : World} {b x : Nat} {v : Value} {l : List Tw} {most peak : Nat} (h : BuN B w1 b x v l most peak w') (hb : Below w.heap.size w w1) : BuN B w b x v l most peak w' := by
  obtain ⟨v', h1, h2, h3⟩ := h
  exact ⟨v', h1, (Keeps.ofNew hb _).trans h2, fun k hk => (h3 k hk).imp id fun h => Nat.le_trans hb.size h⟩
theorem BuN.of {B : Nat} {w w' : World} {b x : Nat} {v : Value} {l l' : List Tw} {most peak peak' : Nat} (h : BuI B w b x v l most peak) (hn : TNow B w x v l' most peak' w') (hr : rightB l' = true) (hok : ∀ t ∈ l', twOk t) (hl : l'.length ≤ 100000) : BuN B w b x v l' most peak' w' := by
  obtain ⟨v', h1, h2, h3⟩ := hn
  have hne := h.ne
  exact ⟨v', ⟨h2.obj h.blk (fun hS => by
    rcases hS with hS | hS
    · exact hne.1 hS
    · exact hne.2.1 hS), h1, hr, hok, hl, h.bb, h.bx, Nat.le_trans h.bw h2.size⟩, h2, h3⟩
theorem buMade {B : Nat} {b x : Nat} {v : Value} {l : List Tw} {most peak : Nat} (w : World) (h : BuI B w b x v l most peak) :
    Calls Try.prog 48 #[.pointer (some ⟨b, 0, none⟩)] w fun e w' => e = .returned (.bool true) ∧ w = w' := by
  have c0 := (block_cell' h.blk 0).1
  clear h
  go_enter Try.func48, Try.ntmps48
  go_wp2
  go_ret
  exact ⟨rfl, rfl⟩
def isMark (l : List Tw) (n : Int) : Bool := n == (l.length : Int) || anyN (topR l) n
theorem buMark {B : Nat} {b x : Nat} {v : Value} {l : List Tw} {most peak : Nat} (w : World) (h : BuI B w b x v l most peak) :
    Calls Try.prog 18 #[.pointer (some ⟨b, 0, none⟩)] w fun e w' => e = .returned (.int .i64 l.length) ∧ w = w' := by
  have HL := Lib.hid (arLen w h.ar)
  have HM := Lib.hid (buMade w h)
  have c0 := (block_cell' h.blk 0).1
  have HT := Lib.hid (show Calls Try.prog 57 #[.pointer (some ⟨b, 0, none⟩), .func (.func 58) #[] #[]] w fun e w' => e = .returned (.int .i64 l.length) ∧ w = w' from by
    clear h
    go_enter Try.func57, Try.ntmps57
    go_wp2_with fail
    refine HM.out.mono ?_
    rintro e w' ⟨rfl, rfl⟩
    go_wp2_with fail
    refine HL.out.mono ?_
    rintro e w' ⟨rfl, rfl⟩
    go_wp2
    go_ret
    exact ⟨rfl, rfl⟩)
  clear h c0
  go_enter Try.func18, Try.ntmps18
  go_wp2_with fail
  refine HT.out.mono ?_
  rintro e w' ⟨rfl, rfl⟩
  go_wp2
  go_ret
  exact ⟨rfl, rfl⟩
theorem buPeak {B : Nat} {b x : Nat} {v : Value} {l : List Tw} {most peak : Nat} (w : World) (h : BuI B w b x v l most peak) :
    Calls Try.prog 65 #[.pointer (some ⟨b, 0, none⟩)] w fun e w' => e = .returned (.int .i64 peak) ∧ w = w' := by
  have HL := Lib.hid (arPeak w h.ar)
  have HM := Lib.hid (buMade w h)
  have c0 := (block_cell' h.blk 0).1
  have HT := Lib.hid (show Calls Try.prog 57 #[.pointer (some ⟨b, 0, none⟩), .func (.func 82) #[] #[]] w fun e w' => e = .returned (.int .i64 peak) ∧ w = w' from by
    clear h
    go_enter Try.func57, Try.ntmps57
    go_wp2_with fail
    refine HM.out.mono ?_
    rintro e w' ⟨rfl, rfl⟩
    go_wp2_with fail
    refine HL.out.mono ?_
    rintro e w' ⟨rfl, rfl⟩
    go_wp2
    go_ret
    exact ⟨rfl, rfl⟩)
  clear h c0
  go_enter Try.func65, Try.ntmps65
  go_wp2_with fail
  refine HT.out.mono ?_
  rintro e w' ⟨rfl, rfl⟩
  go_wp2
  go_ret
  exact ⟨rfl, rfl⟩
theorem buNew_neg (k : Int) (w : World) (hk : k < 0) : Calls Try.prog 14 #[.int .i64 k] w fun e w' => e = .returned (.pointer none) ∧ w = w' := by
  go_enter Try.func14, Try.ntmps14
  go_wp2
  go_ret
  exact ⟨rfl, rfl⟩
theorem rightB_nil : rightB [] = true := (rightB_iff []).2 ⟨[], .nil⟩
def NewR (w : World) (k : Nat) (e : Ending) (w' : World) : Prop := ∃ b x, e = .returned (.pointer (some ⟨b, 0, none⟩)) ∧ BuI w.heap.size w' b x (.slice none 0 0) [] k 0 ∧ Below w.heap.size w w'
set_option maxHeartbeats 400000 in
theorem buNew (k : Nat) (w : World) (hk : k ≤ 9223372036854775807) : Calls Try.prog 14 #[.int .i64 k] w fun e w' => NewR w k e w' := by
  have HA := Lib.hid (arNew k w hk)
  go_enter Try.func14, Try.ntmps14
  go_wp2_with fail
  refine HA.out.mono ?_
  rintro e w1 ⟨rfl, ha, hb⟩
  have HAr := Lib.hid ha
  have HB := Lib.hid hb
  clear ha hb
  go_wp2
  go_ret
  have hal := (Below.refl w1.heap.size w1).alloc (Nat.le_refl _) (.cells #[.pointer (some ⟨w.heap.size, 0, none⟩)] 86)
  exact ⟨_, _, rfl, ⟨heap_alloc_new w1 _, HAr.out.later hal, rightB_nil, by simp, by simp, HB.out.size, Nat.le_refl _, Nat.le_trans HB.out.size hal.size⟩, HB.out.trans (hal.mono HB.out.size)⟩
set_option maxHeartbeats 1000000 in
theorem stMark {B : Nat} {b x : Nat} {v : Value} {l : List Tw} {most peak : Nat} (n : Int) (w : World) (h : BuI B w b x v l most peak) :
    Calls Try.prog 51 #[.agg #[.pointer (some ⟨x, 0, none⟩)], .int .i64 n] w fun e w' => e = .returned (.bool (isMark l n)) ∧ Below w.heap.size w w' := by
  have hal : Below w.heap.size w (w.alloc (.cells #[.pointer (some ⟨x, 0, none⟩)] 84)) := (Below.refl _ _).alloc (Nat.le_refl _) _
  have HL := Lib.hid (arLen _ (h.ar.later hal))
  have HRo := Lib.hid (rowS_any _ (h.ar.later hal) (by have := h.len; omega))
  obtain ⟨rs, hF⟩ := (rightB_iff l).1 h.right
  have HF := Lib.hid hF
  have HT := Lib.hid (topR_of h.right hF)
  have HH := Lib.hid h
  have HAl := Lib.hid hal
  have hl := h.len
  obtain ⟨len, hlen⟩ : ∃ len, len = l.length := ⟨_, rfl⟩
  have HLe := Lib.hid hlen
  rw [← hlen] at HL hl
  clear h hF hal hlen
  by_cases hq : n = len
  · have hq1 : (n == (len : Int)) = true := by simp [hq]
    subst hq
    go_enter Try.func51, Try.ntmps51
    go_wp2_with fail
    refine HL.out.mono ?_
    rintro e w' ⟨rfl, rfl⟩
    go_wp2
    go_ret
    exact ⟨ret_bool (by simp [isMark, HLe.out]), HAl.out⟩
  · have hq1 : (n == (len : Int)) = false := by simp; omega
    have HQ := Lib.hid hq1
    go_enter Try.func51, Try.ntmps51
    go_wp2_with fail
    refine HL.out.mono ?_
    rintro e w' ⟨rfl, rfl⟩
    go_wp2_with fail
    refine HRo.out.mono ?_
    rintro e w1 ⟨v1, rfl, ho1, hb1⟩
    obtain ⟨a1, p1, rfl⟩ := own_val ho1
    have HRt := Lib.hid (roots_any _ w1 (TwOwn.tw ho1) HF.out (by have := HLe.out; omega))
    have HB1 := Lib.hid (HAl.out.trans (hb1.mono HAl.out.size))
    rw [← HLe.out] at HRt ⊢
    clear ho1 hb1
    go_wp2_with fail
    refine HRt.out.mono ?_
    rintro e w2 ⟨v2, rfl, ho2, hb2⟩
    have HCo := Lib.hid (contains_any _ v2 rs n w2 ho2)
    have HB2 := Lib.hid (HB1.out.trans (hb2.mono HB1.out.size))
    obtain ⟨a2, p2, rfl⟩ := own_val ho2
    clear ho2 hb2
    go_wp2_with fail
    refine HCo.out.mono ?_
    rintro e w3 ⟨rfl, rfl⟩
    go_wp2
    go_ret
    exact ⟨ret_bool (by rw [isMark, HT.out, ← HLe.out, HQ.out]; rfl), HB2.out⟩
end Go.Proofs.Ytadkjjpopmiceaa
