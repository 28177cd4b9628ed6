import Derived.Test.YtadkjjpopmiceaaGreatTawm
import Derived.Deep.Upon
namespace Go.Proofs.YtadkjjpopmiceaaGreat
open Go.RowKit Go.Lib

/-- a builder in memory. -/
structure BuI (B : Nat) (w : World) (b x : Nat) (v : Value) (l : List Tw) (most peak : Nat) : Prop where
  blk : w.heap[b]? = some (.cells #[.pointer (some ⟨x, 0, none⟩)] 109 (0, 0))
  ar : TAr B w x v l most peak
  right : rightB l = true
  ok : ∀ t ∈ l, twOk t
  len : l.length ≤ 100000
  bb : B ≤ b
  bx : B ≤ x
  bw : B ≤ w.heap.size
theorem BuI.later {B : Nat} {w w' : World} {b x : Nat} {v : Value} {l : List Tw} {most peak : Nat} (h : BuI B w b x v l most peak) (hb : Below w.heap.size w w') : BuI B w' b x v l most peak :=
  ⟨(hb.block _ (lt_of_block h.blk)).trans h.blk, h.ar.later hb, h.right, h.ok, h.len, h.bb, h.bx, Nat.le_trans h.bw hb.size⟩
theorem BuI.ne {B : Nat} {w : World} {b x : Nat} {v : Value} {l : List Tw} {most peak : Nat} (h : BuI B w b x v l most peak) : b ≠ x ∧ v.ownBlock ≠ some b ∧ v.ownBlock ≠ some x := by
  refine ⟨fun e => ?_, own_ne' h.blk (by decide) h.ar.2.1, own_ne' h.ar.1 (by decide) h.ar.2.1⟩
  have h1 := h.blk
  rw [e, h.ar.1] at h1
  simp at h1
/-- the blocks that a builder's calls write. -/
def BuS (x : Nat) (v : Value) (k : Nat) : Prop := k = x ∨ v.ownBlock = some k
def BuN (B : Nat) (w : World) (b x : Nat) (v : Value) (l : List Tw) (most peak : Nat) (w' : World) : Prop :=
  ∃ v', BuI B w' b x v' l most peak ∧ Keeps (BuS x v) w w' ∧ (∀ k, v'.ownBlock = some k → v.ownBlock = some k ∨ w.heap.size ≤ k)
theorem BuN.self {B : Nat} {w w' : World} {b x : Nat} {v : Value} {l : List Tw} {most peak : Nat} (h : BuI B w b x v l most peak) (hb : Below w.heap.size w w') : BuN B w b x v l most peak w' :=
  ⟨v, h.later hb, Keeps.ofNew hb _, fun _ hk => .inl hk⟩
/-- ahead of it new memory was made. -/
theorem BuN.before {B : Nat} {w w1 w' : World} {b x : Nat} {v : Value} {l : List Tw} {most peak : Nat} (h : BuN B w1 b x v l most peak w') (hb : Below w.heap.size w w1) : BuN B w b x v l most peak w' := by
  obtain ⟨v', h1, h2, h3⟩ := h
  exact ⟨v', h1, (Keeps.ofNew hb _).trans h2, fun k hk => (h3 k hk).imp id fun h => Nat.le_trans hb.size h⟩
theorem BuN.of {B : Nat} {w w' : World} {b x : Nat} {v : Value} {l l' : List Tw} {most peak peak' : Nat} (h : BuI B w b x v l most peak) (hn : TNow B w x v l' most peak' w') (hr : rightB l' = true) (hok : ∀ t ∈ l', twOk t) (hl : l'.length ≤ 100000) : BuN B w b x v l' most peak' w' := by
  obtain ⟨v', h1, h2, h3⟩ := hn
  have hne := h.ne
  exact ⟨v', ⟨h2.obj h.blk (fun hS => by
    rcases hS with hS | hS
    · exact hne.1 hS
    · exact hne.2.1 hS), h1, hr, hok, hl, h.bb, h.bx, Nat.le_trans h.bw h2.size⟩, h2, h3⟩
theorem buMade {B : Nat} {b x : Nat} {v : Value} {l : List Tw} {most peak : Nat} (w : World) (h : BuI B w b x v l most peak) :
    Calls Tryz.prog 73 #[.pointer (some ⟨b, 0, none⟩)] w fun e w' => e = .returned (.bool true) ∧ w = w' := by
  have c0 := (block_cell' h.blk 0).1
  clear h
  go_enter Tryz.func73, Tryz.ntmps73
  go_wp2
  go_ret
  exact ⟨rfl, rfl⟩
def isMark (l : List Tw) (n : Int) : Bool := n == (l.length : Int) || anyN (topR l) n
theorem buMark {B : Nat} {b x : Nat} {v : Value} {l : List Tw} {most peak : Nat} (w : World) (h : BuI B w b x v l most peak) :
    Calls Tryz.prog 36 #[.pointer (some ⟨b, 0, none⟩)] w fun e w' => e = .returned (.int .i64 l.length) ∧ w = w' := by
  have HL := Lib.hid (arLen w h.ar)
  have HM := Lib.hid (buMade w h)
  have c0 := (block_cell' h.blk 0).1
  have HT := Lib.hid (show Calls Tryz.prog 76 #[.pointer (some ⟨b, 0, none⟩), .func (.func 77) #[] #[]] w fun e w' => e = .returned (.int .i64 l.length) ∧ w = w' from by
    clear h
    go_enter Tryz.func76, Tryz.ntmps76
    go_wp2_with fail
    refine HM.out.mono ?_
    rintro e w' ⟨rfl, rfl⟩
    go_wp2_with fail
    refine HL.out.mono ?_
    rintro e w' ⟨rfl, rfl⟩
    go_wp2
    go_ret
    exact ⟨rfl, rfl⟩)
  clear h c0
  go_enter Tryz.func36, Tryz.ntmps36
  go_wp2_with fail
  refine HT.out.mono ?_
  rintro e w' ⟨rfl, rfl⟩
  go_wp2
  go_ret
  exact ⟨rfl, rfl⟩
theorem buPeak {B : Nat} {b x : Nat} {v : Value} {l : List Tw} {most peak : Nat} (w : World) (h : BuI B w b x v l most peak) :
    Calls Tryz.prog 71 #[.pointer (some ⟨b, 0, none⟩)] w fun e w' => e = .returned (.int .i64 peak) ∧ w = w' := by
  have HL := Lib.hid (arPeak w h.ar)
  have HM := Lib.hid (buMade w h)
  have c0 := (block_cell' h.blk 0).1
  have HT := Lib.hid (show Calls Tryz.prog 76 #[.pointer (some ⟨b, 0, none⟩), .func (.func 105) #[] #[]] w fun e w' => e = .returned (.int .i64 peak) ∧ w = w' from by
    clear h
    go_enter Tryz.func76, Tryz.ntmps76
    go_wp2_with fail
    refine HM.out.mono ?_
    rintro e w' ⟨rfl, rfl⟩
    go_wp2_with fail
    refine HL.out.mono ?_
    rintro e w' ⟨rfl, rfl⟩
    go_wp2
    go_ret
    exact ⟨rfl, rfl⟩)
  clear h c0
  go_enter Tryz.func71, Tryz.ntmps71
  go_wp2_with fail
  refine HT.out.mono ?_
  rintro e w' ⟨rfl, rfl⟩
  go_wp2
  go_ret
  exact ⟨rfl, rfl⟩
theorem buNew_neg (k : Int) (w : World) (hk : k < 0) : Calls Tryz.prog 34 #[.int .i64 k] w fun e w' => e = .returned (.pointer none) ∧ w = w' := by
  go_enter Tryz.func34, Tryz.ntmps34
  go_wp2
  go_ret
  exact ⟨rfl, rfl⟩
theorem rightB_nil : rightB [] = true := (rightB_iff []).2 ⟨[], .nil⟩
def NewR (w : World) (k : Nat) (e : Ending) (w' : World) : Prop := ∃ b x, e = .returned (.pointer (some ⟨b, 0, none⟩)) ∧ BuI w.heap.size w' b x (.slice none 0 0) [] k 0 ∧ Below w.heap.size w w'
set_option maxHeartbeats 400000 in
theorem buNew (k : Nat) (w : World) (hk : k ≤ 9223372036854775807) : Calls Tryz.prog 34 #[.int .i64 k] w fun e w' => NewR w k e w' := by
  have HA := Lib.hid (arNew k w hk)
  go_enter Tryz.func34, Tryz.ntmps34
  go_wp2_with fail
  refine HA.out.mono ?_
  rintro e w1 ⟨rfl, ha, hb⟩
  have HAr := Lib.hid ha
  have HB := Lib.hid hb
  clear ha hb
  go_wp2
  go_ret
  have hal := (Below.refl w1.heap.size w1).alloc (Nat.le_refl _) (.cells #[.pointer (some ⟨w.heap.size, 0, none⟩)] 109)
  exact ⟨_, _, rfl, ⟨heap_alloc_new w1 _, HAr.out.later hal, rightB_nil, by simp, by simp, HB.out.size, Nat.le_refl _, Nat.le_trans HB.out.size hal.size⟩, HB.out.trans (hal.mono HB.out.size)⟩
set_option maxHeartbeats 1000000 in
theorem stMark {B : Nat} {b x : Nat} {v : Value} {l : List Tw} {most peak : Nat} (n : Int) (w : World) (h : BuI B w b x v l most peak) :
    Calls Tryz.prog 78 #[.agg #[.pointer (some ⟨x, 0, none⟩)], .int .i64 n] w fun e w' => e = .returned (.bool (isMark l n)) ∧ Below w.heap.size w w' := by
  have hal : Below w.heap.size w (w.alloc (.cells #[.pointer (some ⟨x, 0, none⟩)] 107)) := (Below.refl _ _).alloc (Nat.le_refl _) _
  have HL := Lib.hid (arLen _ (h.ar.later hal))
  have HRo := Lib.hid (rowS_any _ (h.ar.later hal) (by have := h.len; omega))
  obtain ⟨rs, hF⟩ := (rightB_iff l).1 h.right
  have HF := Lib.hid hF
  have HT := Lib.hid (topR_of h.right hF)
  have HH := Lib.hid h
  have HAl := Lib.hid hal
  have hl := h.len
  obtain ⟨len, hlen⟩ : ∃ len, len = l.length := ⟨_, rfl⟩
  have HLe := Lib.hid hlen
  rw [← hlen] at HL hl
  clear h hF hal hlen
  by_cases hq : n = len
  · have hq1 : (n == (len : Int)) = true := by simp [hq]
    subst hq
    go_enter Tryz.func78, Tryz.ntmps78
    go_wp2_with fail
    refine HL.out.mono ?_
    rintro e w' ⟨rfl, rfl⟩
    go_wp2
    go_ret
    exact ⟨ret_bool (by simp [isMark, HLe.out]), HAl.out⟩
  · have hq1 : (n == (len : Int)) = false := by simp; omega
    have HQ := Lib.hid hq1
    go_enter Tryz.func78, Tryz.ntmps78
    go_wp2_with fail
    refine HL.out.mono ?_
    rintro e w' ⟨rfl, rfl⟩
    go_wp2_with fail
    refine HRo.out.mono ?_
    rintro e w1 ⟨v1, rfl, ho1, hb1⟩
    obtain ⟨a1, p1, rfl⟩ := own_val ho1
    have HRt := Lib.hid (roots_any _ w1 (TwOwn.tw ho1) HF.out (by have := HLe.out; omega))
    have HB1 := Lib.hid (HAl.out.trans (hb1.mono HAl.out.size))
    rw [← HLe.out] at HRt ⊢
    clear ho1 hb1
    go_wp2_with fail
    refine HRt.out.mono ?_
    rintro e w2 ⟨v2, rfl, ho2, hb2⟩
    have HCo := Lib.hid (contains_any _ v2 rs n w2 ho2)
    have HB2 := Lib.hid (HB1.out.trans (hb2.mono HB1.out.size))
    obtain ⟨a2, p2, rfl⟩ := own_val ho2
    clear ho2 hb2
    go_wp2_with fail
    refine HCo.out.mono ?_
    rintro e w3 ⟨rfl, rfl⟩
    go_wp2
    go_ret
    exact ⟨ret_bool (by rw [isMark, HT.out, ← HLe.out, HQ.out]; rfl), HB2.out⟩
end Go.Proofs.YtadkjjpopmiceaaGreat
namespace Go.Proofs.YtadkjjpopmiceaaGreat
open Go.RowKit Go.Lib

def bBack (l : List Tw) (m : Int) : Int × List Tw := if isMark l m = true then (0, l.take m.toNat) else (2, l)
def bPut (most : Nat) (l l2 : List Tw) : Int × List Tw :=
  if rightB l2 = true then (if rightB (l ++ l2) = true then (if l.length + l2.length ≤ most then (0, l ++ l2) else (12, l)) else (2, l)) else (4, l)
theorem mark_le {l : List Tw} {n : Int} (h : isMark l n = true) (hr : rightB l = true) : ∃ m : Nat, n = m ∧ m ≤ l.length := by
  simp [isMark, anyN] at h
  rcases h with h | ⟨x, hx, h⟩
  · exact ⟨l.length, h, Nat.le_refl _⟩
  · obtain ⟨rs, hF⟩ := (rightB_iff l).1 hr
    rw [topR_of hr hF] at hx
    have := hF.root x hx
    exact ⟨x, h.symm, by omega⟩
/-- a forest is parted at a root. -/
theorem For.at_root {l : List Tw} {lo hi a : Int} {n e : Nat} {rs : List Nat} (h : For l lo hi a n e rs) : ∀ r ∈ rs, ∃ r1 r2, rs = r1 ++ r2 ∧ (∀ x ∈ r1, x < r) ∧ (∀ x ∈ r2, r ≤ x) ∧ For l lo hi a n r r1 ∧ ∃ a', For l lo hi a' r e r2 := by
  induction h with
  | nil => intro r hr; simp at hr
  | @cons lo hi a n m e ks rs h0 hk hlo hhi ha h3 h5 h4 h1 h2 =>
    intro r hr
    have hF : For l lo hi a n e (n :: rs) := .cons h0 hk hlo hhi ha h3 h5 h4
    have g3 := h3.le
    rcases List.mem_cons.1 hr with rfl | hr
    · exact ⟨[], r :: rs, rfl, by simp, fun x hx => (hF.root x hx).1, .nil, a, hF⟩
    · obtain ⟨r1, r2, e1, e2, e3, e4, a', e5⟩ := h2 r hr
      have hmr := h4.root r hr
      refine ⟨n :: r1, r2, by rw [e1]; rfl, fun x hx => ?_, e3, .cons h0 hk hlo hhi ha h3 h5 e4, a', e5⟩
      rcases List.mem_cons.1 hx with rfl | hx
      · omega
      · exact e2 x hx
theorem For.at_mark {l : List Tw} {n : Nat} (h : rightB l = true) (hm : isMark l n = true) : ∃ r1 r2 a', topR l = r1 ++ r2 ∧ (∀ x ∈ r1, x < n) ∧ (∀ x ∈ r2, n ≤ x) ∧ For l 0 9223372036854775807 0 0 n r1 ∧ For l 0 9223372036854775807 a' n l.length r2 := by
  obtain ⟨rs, hF⟩ := (rightB_iff l).1 h
  rw [topR_of h hF]
  simp [isMark, anyN, topR_of h hF] at hm
  rcases hm with hm | ⟨x, hm, hxe⟩
  · obtain rfl : n = l.length := by omega
    exact ⟨rs, [], 0, by simp, fun x hx => (hF.root x hx).2, by simp, hF, .nil⟩
  · obtain rfl : x = n := by omega
    obtain ⟨r1, r2, e1, e2, e3, e4, a', e5⟩ := hF.at_root x hm
    exact ⟨r1, r2, a', e1, e2, e3, e4, e5⟩
/-- what stands ahead of an end does not ask for more. -/
theorem For.take {l l' : List Tw} {lo hi a : Int} {n e : Nat} {rs : List Nat} (h : For l lo hi a n e rs) : (∀ i, n ≤ i → i < e → i < l'.length ∧ atT l' i = atT l i) → For l' lo hi a n e rs := by
  induction h with
  | nil => intro _; exact .nil
  | @cons lo hi a n m e ks rs h0 hk hlo hhi ha h3 h5 h4 h1 h2 =>
    intro hh
    have g3 := h3.le
    have g4 := h4.le
    obtain ⟨q1, q2⟩ := hh n (Nat.le_refl _) (by omega)
    have h1' := h1 (fun i i1 i2 => hh i (by omega) (by omega))
    have h2' := h2 (fun i i1 i2 => hh i (by omega) i2)
    rw [← q2] at hk hlo hhi ha h1' h2' h5
    exact .cons q1 hk hlo hhi ha h1' h5 h2'
theorem atT_take {l : List Tw} {n i : Nat} (h : i < n) : atT (l.take n) i = atT l i := by
  simp [atT, List.getD_eq_getElem?_getD, List.getElem?_take, h]
theorem right_take {l : List Tw} {n : Nat} (h : rightB l = true) (hm : isMark l n = true) : rightB (l.take n) = true := by
  obtain ⟨r1, r2, a', -, -, -, h1, -⟩ := For.at_mark h hm
  obtain ⟨m, hm1, hm2⟩ := mark_le hm h
  have hnm : n ≤ l.length := by omega
  have hl : (l.take n).length = n := by rw [List.length_take]; omega
  refine (rightB_iff _).2 ⟨r1, ?_⟩
  rw [hl]
  exact h1.take (fun i i1 i2 => ⟨by rw [hl]; exact i2, atT_take i2⟩)
set_option maxHeartbeats 1000000 in
theorem buBack {B : Nat} {b x : Nat} {v : Value} {l : List Tw} {most peak : Nat} (n : Int) (w : World) (h : BuI B w b x v l most peak) :
    Calls Tryz.prog 39 #[.pointer (some ⟨b, 0, none⟩), .int .i64 n] w fun e w' => e = .returned (.int .i64 (bBack l n).1) ∧ BuN B w b x v (bBack l n).2 most peak w' := by
  have HM := Lib.hid (buMade w h)
  have HMk := Lib.hid (stMark n w h)
  have HH := Lib.hid h
  have c0 := (block_cell' h.blk 0).1
  clear h
  cases hm : isMark l n
  · have HB := Lib.hid (show bBack l n = (2, l) from by unfold bBack; rw [hm]; rfl)
    rw [hm] at HMk
    clear hm
    go_enter Tryz.func39, Tryz.ntmps39
    go_wp2_with fail
    refine HM.out.mono ?_
    rintro e w' ⟨rfl, rfl⟩
    go_wp2_with fail
    refine HMk.out.mono ?_
    rintro e w1 ⟨rfl, hb⟩
    go_wp2
    go_ret
    rw [HB.out]
    exact ⟨rfl, BuN.self HH.out hb⟩
  · obtain ⟨m, rfl, hml⟩ := mark_le hm HH.out.right
    have HB := Lib.hid (show bBack l m = (0, l.take m) from by unfold bBack; rw [hm, if_pos rfl, Int.toNat_natCast])
    have HR := Lib.hid (right_take HH.out.right hm)
    rw [hm] at HMk
    clear hm
    go_enter Tryz.func39, Tryz.ntmps39
    go_wp2_with fail
    refine HM.out.mono ?_
    rintro e w' ⟨rfl, rfl⟩
    go_wp2_with fail
    refine HMk.out.mono ?_
    rintro e w1 ⟨rfl, hb⟩
    have HBe := Lib.hid hb
    have HH1 := Lib.hid (HH.out.later hb)
    clear c0 hb
    have c0 := (block_cell' HH1.out.blk 0).1
    have HBk := Lib.hid (arBack w1 m HH1.out.ar hml)
    go_wp2_with fail
    refine HBk.out.mono ?_
    rintro e w2 ⟨rfl, hn⟩
    have HN := Lib.hid hn
    clear hn c0
    go_wp2
    go_ret
    rw [HB.out]
    exact ⟨rfl, (BuN.of HH1.out HN.out HR.out (fun t ht => HH1.out.ok t (List.mem_of_mem_take ht)) (by have := HH1.out.len; rw [List.length_take]; omega)).before HBe.out⟩
/-- what Since tells. -/
def SinceR (w : World) (l : List Tw) (n : Int) (e : Ending) (w' : World) : Prop :=
  ∃ v', e = .returned (.tuple #[v', .int .i64 (if isMark l n = true then 0 else 2)]) ∧ TwOwn w.heap.size w' v' (if isMark l n = true then l.drop n.toNat else []) ∧ Below w.heap.size w w'
set_option maxHeartbeats 2000000 in
theorem buSince {B : Nat} {b x : Nat} {v : Value} {l : List Tw} {most peak : Nat} (n : Int) (w : World) (h : BuI B w b x v l most peak) :
    Calls Tryz.prog 38 #[.pointer (some ⟨b, 0, none⟩), .int .i64 n] w fun e w' => SinceR w l n e w' := by
  have HM := Lib.hid (buMade w h)
  have HMk := Lib.hid (stMark n w h)
  have HH := Lib.hid h
  have c0 := (block_cell' h.blk 0).1
  clear h
  cases hm : isMark l n
  · have HB := Lib.hid hm
    rw [hm] at HMk
    clear hm
    go_enter Tryz.func38, Tryz.ntmps38
    go_wp2_with fail
    refine HM.out.mono ?_
    rintro e w' ⟨rfl, rfl⟩
    go_wp2_with fail
    refine HMk.out.mono ?_
    rintro e w1 ⟨rfl, hb⟩
    go_wp2
    go_ret2
    refine ⟨.slice none 0 0, by rw [HB.out]; rfl, ?_, hb⟩
    rw [HB.out]
    exact World.ownsRow_nil _ _ _ _
  · obtain ⟨m, rfl, hml⟩ := mark_le hm HH.out.right
    have HB := Lib.hid hm
    rw [hm] at HMk
    clear hm
    go_enter Tryz.func38, Tryz.ntmps38
    go_wp2_with fail
    refine HM.out.mono ?_
    rintro e w' ⟨rfl, rfl⟩
    go_wp2_with fail
    refine HMk.out.mono ?_
    rintro e w1 ⟨rfl, hb⟩
    have HBe := Lib.hid hb
    have HH1 := Lib.hid (HH.out.later hb)
    clear c0 hb
    have c0 := (block_cell' HH1.out.blk 0).1
    have HRo := Lib.hid (rowS_any w1 HH1.out.ar (by have := HH1.out.len; omega))
    go_wp2_with fail
    refine HRo.out.mono ?_
    rintro e w2 ⟨v2, rfl, ho2, hb2⟩
    have HB2 := Lib.hid (HBe.out.trans (hb2.mono HBe.out.size))
    have hlen := HH1.out.len
    obtain ⟨len, hle⟩ : ∃ len, len = l.length := ⟨_, rfl⟩
    have HLe := Lib.hid hle
    have fin : ∀ e w3, ToldT w2 (l.drop m) e w3 → ∀ ao n c, e = .returned (.slice ao n c) → SinceR w l m (.returned (.tuple #[.slice ao n c, .int .i64 0])) w3 := fun e w3 h ao n c he => by
      obtain ⟨v3, h1, h2, h3⟩ := h
      rw [he] at h1
      cases h1
      refine ⟨_, by rw [HB.out]; rfl, ?_, HB2.out.trans (h3.mono HB2.out.size)⟩
      rw [HB.out, if_pos rfl, Int.toNat_natCast]
      exact h2.lift HB2.out.size
    have Fin := Lib.hid fin
    unfold TwOwn at ho2
    rw [← hle] at hml hlen ho2
    have HO2 := Lib.hid ho2
    rcases ho2.2 with ⟨rfl, h0⟩ | ⟨g, cap, cur, rfl, -, -, hc1, hc2, -⟩
    · have hm0 : m = 0 := by omega
      subst hm0
      subst h0
      have HCl := Lib.hid (tClone_any (.slice none 0 0) w2 (TwAt.nil w2) (by simp))
      have HD := Lib.hid (show l.drop 0 = [] from by rw [List.drop_zero]; exact List.eq_nil_of_length_eq_zero HLe.out.symm)
      clear hle fin ho2 hb2 c0 hml hlen
      go_wp2_with fail
      refine HCl.out.mono ?_
      rintro e w3 ht
      obtain ⟨v3, rfl, ho3, hb3⟩ := ht
      obtain ⟨a3, p3, rfl⟩ := own_val ho3
      have HF := Lib.hid (Fin.out _ w3 (by rw [HD.out]; exact ⟨_, rfl, ho3, hb3⟩) _ _ _ rfl)
      clear ho3 hb3
      go_wp2
      go_ret2
      exact HF.out
    · unfold maxLen at hc2
      by_cases hmc : m = cap
      · have hmn : m = len := by omega
        subst hmc
        have HCl := Lib.hid (tClone_any (.slice (some ⟨g, 0, none⟩) 0 0) w2 (tw_empty w2 0 (Nat.zero_le _) g 0 (HO2.out.lt g rfl).2) (by simp))
        have HD := Lib.hid (show l.drop m = [] from List.drop_eq_nil_of_le (by rw [← HLe.out]; omega))
        subst hmn
        clear hle fin ho2 hb2 c0
        go_wp2_with fail
        refine HCl.out.mono ?_
        rintro e w3 ht
        obtain ⟨v3, rfl, ho3, hb3⟩ := ht
        obtain ⟨a3, p3, rfl⟩ := own_val ho3
        have HF := Lib.hid (Fin.out _ w3 (by rw [HD.out]; exact ⟨_, rfl, ho3, hb3⟩) _ _ _ rfl)
        clear ho3 hb3
        go_wp2
        go_ret2
        exact HF.out
      · have hmc2 : m < cap := by omega
        have hmc3 : (m : Int) < cap := by omega
        have hmi : (m : Int) ≤ len := by omega
        have HCl := Lib.hid (tClone_any (.slice (some ⟨g, m * 5, none⟩) (len - m) (cap - m)) w2 (by
          have := own_part HO2.out m len (m * 5) (cap - m) (by omega) (Nat.le_refl _) (.inr rfl) ⟨by omega, by unfold maxLen; omega⟩
          rwa [List.take_of_length_le (by rw [HLe.out]; exact Nat.le_refl _)] at this) (by rw [List.length_drop]; omega))
        clear hle fin ho2 hb2 c0
        go_wp2_with fail
        refine HCl.out.mono ?_
        rintro e w3 ht
        obtain ⟨v3, rfl, ho3, hb3⟩ := ht
        obtain ⟨a3, p3, rfl⟩ := own_val ho3
        have HF := Lib.hid (Fin.out _ w3 (by exact ⟨_, rfl, ho3, hb3⟩) a3 (l.length - m) p3 (by rw [List.length_drop]))
        clear ho3 hb3
        go_wp2
        go_ret2
        exact HF.out
end Go.Proofs.YtadkjjpopmiceaaGreat
namespace Go.Proofs.YtadkjjpopmiceaaGreat
open Go.RowKit Go.Lib

theorem append_type {P : Program} (w : World) (t u ty e e' : TypeId) (a b : Value) (ht : P.underlying t = some (.slice e)) (hu : P.underlying u = some (.slice e')) :
    (Builtin.append_ #[t, u] ty #[a, b]).run P w = (Builtin.append_ #[t, t] ty #[a, b]).run P w := by
  unfold Builtin.append_
  cases a <;> simp [run_underlying ht, run_underlying hu]
theorem wpList_append_tu {P : Program} {w : World} {ops : Array Oper} {rest : List Oper} {o : Oper} {a : Act} {Q : Exit → Act → World → Prop} (hgd : o.guard = none) (s x : Operand) (t u : TypeId)
    (ho : o.op = .call { callee := .builtin .append, args := #[s, x], argTypes := #[t, u] })
    (base : Nat) (e e' : TypeId) (i : TypeInfo) (z : Value) (size bytes : Nat) (ht : P.underlying t = some (.slice e)) (hu : P.underlying u = some (.slice e')) (hi : P.info? e = some i) (hz : i.zero = some z)
    (hsize : i.size = size) (hby : i.bytes = bytes) (hzs : z.cells.size = size) (hsz : 0 < size)
    (ao : Option Addr) (n cap : Nat) (xs : List Value) (hs : a.eval s = .slice ao n cap) (hown : w.ownsRow base e size (.slice ao n cap) n xs)
    (xo : Option Addr) (m c : Nat) (news : List Value) (hx : a.eval x = .slice xo m c) (hxo : xo = none → m = 0) (hl : news.length = m * size) (hnews : ∀ ad, xo = some ad → ∀ j u, news[j]? = some u → w.cell? (ad.add j) = some u) (h1 : ∀ u ∈ news, u.oneCell' = true)
    (h63 : n + m ≤ maxLen) (hbytes : (n + m) * bytes ≤ 140737488355328) (hbase : base ≤ w.heap.size)
    (h : ∀ v' w', w'.ownsRow base e size v' (n + m) (xs ++ news) → w.grownBy w' (Value.slice ao n cap).ownBlock → wpList P ops Q rest (a.put o.dst v') w') :
    wpList P ops Q (o :: rest) a w := by
  have hcap : n ≤ cap := (own_cap hown).1
  cases xo with
  | none =>
    obtain rfl := hxo rfl
    have hnil : news = [] := List.eq_nil_of_length_eq_zero (by omega)
    subst hnil
    have hr := run_append_nothing (P := P) w t t o.type e i ht hi ao n cap hcap (.slice none 0 c) (Src.ofNil w ht c)
    rw [← append_type w t u o.type e e' _ _ ht hu] at hr
    refine wpList_plain hgd fun K hK => ?_
    unfold Oper.wp execOp
    simp only [ho, resolve, invoke, builtin, Sem.run_bind, Sem.run_pure, Result.andThen_ok, List.map_toArray, List.map_cons, List.map_nil, hs, hx, hr]
    exact hK _ _ (h _ _ (by simpa using hown) ⟨rfl, rfl, rfl, Nat.le_refl _, fun _ _ _ => rfl⟩)
  | some ad =>
    obtain ⟨v', w', hr, h2, h3, -⟩ := run_append_own (P := P) w base t o.type e i z size bytes ht hi hz hsize hby hzs hsz (.slice ao n cap) n xs hown ad m c news hl (hnews ad rfl) h1 h63 hbytes hbase
    rw [← append_type w t u o.type e e' _ _ ht hu] at hr
    refine wpList_plain hgd fun K hK => ?_
    unfold Oper.wp execOp
    simp only [ho, resolve, invoke, builtin, Sem.run_bind, Sem.run_pure, Result.andThen_ok, List.map_toArray, List.map_cons, List.map_nil, hs, hx, hr]
    exact hK _ _ (h _ _ h2 h3)
/-- the same, at a step of a region that draws. -/
theorem step_append_tu {P : Program} {ops : Array Oper} {o : Oper} {a : Act} {w : World} {K : Act → World → Prop} {Q : Exit → Act → World → Prop} {E : Prop}
    (hgd : o.guard = none) (s x : Operand) (t u : TypeId) (ho : o.op = .call { callee := .builtin .append, args := #[s, x], argTypes := #[t, u] })
    (base : Nat) (e e' : TypeId) (i : TypeInfo) (z : Value) (size bytes : Nat) (ht : P.underlying t = some (.slice e)) (hu : P.underlying u = some (.slice e')) (hi : P.info? e = some i) (hz : i.zero = some z)
    (hsize : i.size = size) (hby : i.bytes = bytes) (hzs : z.cells.size = size) (hsz : 0 < size)
    (ao : Option Addr) (n cap : Nat) (xs : List Value) (hs : a.eval s = .slice ao n cap) (hown : w.ownsRow base e size (.slice ao n cap) n xs)
    (xo : Option Addr) (m c : Nat) (news : List Value) (hx : a.eval x = .slice xo m c) (hxo : xo = none → m = 0) (hl : news.length = m * size) (hnews : ∀ ad, xo = some ad → ∀ j u, news[j]? = some u → w.cell? (ad.add j) = some u) (h1 : ∀ u ∈ news, u.oneCell' = true)
    (h63 : n + m ≤ maxLen) (hbytes : (n + m) * bytes ≤ 140737488355328) (hbase : base ≤ w.heap.size)
    (h : ∀ v' w', w'.ownsRow base e size v' (n + m) (xs ++ news) → w.grownBy w' (Value.slice ao n cap).ownBlock → K (a.put o.dst v') w') :
    if Region.wanted o (yielded ops a.tmps) = true then Oper.wp P o a w K Q else E := by
  have hw : Region.wanted o (yielded ops a.tmps) = true := by simp [Region.wanted, hgd]
  rw [if_pos hw]
  have hcap : n ≤ cap := (own_cap hown).1
  unfold Oper.wp execOp
  cases xo with
  | none =>
    obtain rfl := hxo rfl
    have hnil : news = [] := List.eq_nil_of_length_eq_zero (by omega)
    subst hnil
    have hr := run_append_nothing (P := P) w t t o.type e i ht hi ao n cap hcap (.slice none 0 c) (Src.ofNil w ht c)
    rw [← append_type w t u o.type e e' _ _ ht hu] at hr
    simp only [ho, resolve, invoke, builtin, Sem.run_bind, Sem.run_pure, Result.andThen_ok, List.map_toArray, List.map_cons, List.map_nil, hs, hx, hr]
    exact h _ _ (by simpa using hown) ⟨rfl, rfl, rfl, Nat.le_refl _, fun _ _ _ => rfl⟩
  | some ad =>
    obtain ⟨v', w', hr, h2, h3, -⟩ := run_append_own (P := P) w base t o.type e i z size bytes ht hi hz hsize hby hzs hsz (.slice ao n cap) n xs hown ad m c news hl (hnews ad rfl) h1 h63 hbytes hbase
    rw [← append_type w t u o.type e e' _ _ ht hu] at hr
    simp only [ho, resolve, invoke, builtin, Sem.run_bind, Sem.run_pure, Result.andThen_ok, List.map_toArray, List.map_cons, List.map_nil, hs, hx, hr]
    exact h _ _ h2 h3
end Go.Proofs.YtadkjjpopmiceaaGreat
namespace Go.Proofs.YtadkjjpopmiceaaGreat
open Go.RowKit Go.Lib

theorem TwRow.own {B : Nat} {w : World} {v : Value} {l : List Tw} (h : TwOwn B w v l) (hok : ∀ t ∈ l, twOk t) (hl : l.length ≤ 1000000) : TwRow w v l := ⟨h.tw, hok, hl⟩
set_option maxRecDepth 100000 in
set_option maxHeartbeats 4000000 in
theorem buPut {B : Nat} {b x : Nat} {v vl : Value} {l l2 : List Tw} {most peak : Nat} (w : World) (h : BuI B w b x v l most peak) (h2 : TwRow w vl l2) (hl : l.length + l2.length ≤ 100000) :
    Calls Tryz.prog 35 #[.pointer (some ⟨b, 0, none⟩), vl] w fun e w' => e = .returned (.int .i64 (bPut most l l2).1) ∧ BuN B w b x v (bPut most l l2).2 most (max peak (bPut most l l2).2.length) w' := by
  have HM := Lib.hid (buMade w h)
  have HR2 := Lib.hid (right_any vl l2 w h2.at' h2.ok h2.len)
  have HH := Lib.hid h
  have H2 := Lib.hid h2
  have c0 := (block_cell' h.blk 0).1
  have hpk : max peak l.length = peak := by have := h.ar.2.2.2.2.2; omega
  have HPk := Lib.hid hpk
  obtain ⟨ao, cap, rfl⟩ := h2.at'.val
  obtain ⟨n2, hn2⟩ : ∃ n2, n2 = l2.length := ⟨_, rfl⟩
  have HN2 := Lib.hid hn2
  rw [← hn2] at HR2 H2 hl ⊢
  clear h h2 hpk hn2
  cases hr2 : rightB l2
  · have HP := Lib.hid (show bPut most l l2 = (4, l) from by unfold bPut; rw [hr2]; rfl)
    rw [hr2] at HR2
    clear hr2
    go_enter Tryz.func35, Tryz.ntmps35
    go_wp2_with fail
    refine HM.out.mono ?_
    rintro e w' ⟨rfl, rfl⟩
    go_wp2_with fail
    refine HR2.out.mono ?_
    rintro e w1 ⟨rfl, hb⟩
    go_wp2
    go_ret
    rw [HP.out]
    simp only
    rw [HPk.out]
    exact ⟨rfl, BuN.self HH.out hb⟩
  · have HRi := Lib.hid hr2
    rw [hr2] at HR2
    clear hr2
    obtain ⟨i0, hi0, hz0, hz1, hz2⟩ := info_parts Tryz.infoTwig
    go_enter Tryz.func35, Tryz.ntmps35
    go_wp2_with fail
    refine HM.out.mono ?_
    rintro e w' ⟨rfl, rfl⟩
    go_wp2_with fail
    refine HR2.out.mono ?_
    rintro e w1 ⟨rfl, hb1⟩
    have HB1 := Lib.hid hb1
    have HH1 := Lib.hid (HH.out.later hb1)
    clear c0 hb1
    have c0 := (block_cell' HH1.out.blk 0).1
    have HRo := Lib.hid (rowS_any w1 HH1.out.ar (by have := HH1.out.len; omega))
    go_wp2_with fail
    refine HRo.out.mono ?_
    rintro e w2 ⟨v2, rfl, ho2, hb2⟩
    have HB2 := Lib.hid (HB1.out.trans (hb2.mono HB1.out.size))
    have H22 := Lib.hid (H2.out.later HB2.out)
    obtain ⟨a2, p2, rfl⟩ := own_val ho2
    obtain ⟨n, hn⟩ : ∃ n, n = l.length := ⟨_, rfl⟩
    have HN := Lib.hid hn
    unfold TwOwn at ho2
    rw [← hn] at ho2 hl ⊢
    have HO2 := Lib.hid ho2
    obtain ⟨-, hlc, hcm, hnil, hnews⟩ := rows_news twc_len (by omega) H22.out.at'
    have Hnil := Lib.hid hnil
    have Hnews := Lib.hid hnews
    have HS12b := Lib.hid hb2
    have hsz2 : w1.heap.size ≤ w2.heap.size := hb2.size
    clear ho2 hb2 hn hnil hnews
    go_wp2_with (refine wpList_append_tu rfl (.tmp 20) (.tmp 21) 75 22 rfl w1.heap.size 45 45 i0 _ 5 40 Tryz.underlying75 Tryz.underlying22 hi0 hz0 hz1 hz2 rfl (by decide) a2 n p2 (tvs l) rfl HO2.out ao n2 cap (tvs l2) rfl (fun h => (Hnil.out h).1) (by rw [flat_len twc_len, HN2.out]) Hnews.out (flat_one twc_one l2) (by unfold maxLen; omega) (by omega) hsz2 ?_; intro v3 w3 hown' hgrow)
    have HB3 := Lib.hid (show Below w1.heap.size w1 w3 from by
      have h1 : Below w1.heap.size w1 w2 := HS12b.out
      exact h1.grown hgrow hsz2 (fun r hr => (HO2.out.lt r hr).1))
    have HO3 := Lib.hid (show TwOwn w1.heap.size w3 v3 (l ++ l2) from by
      unfold TwOwn
      rw [List.length_append, ← HN.out, ← HN2.out, tvs, List.flatMap_append]
      exact hown')
    have HT3 := Lib.hid (TwRow.own HO3.out (fun t ht => (List.mem_append.1 ht).elim (HH1.out.ok t) (H2.out.ok t)) (by rw [List.length_append, ← HN.out, ← HN2.out]; omega))
    have HR3 := Lib.hid (right_any v3 (l ++ l2) w3 HT3.out.at' HT3.out.ok HT3.out.len)
    have HBw3 := Lib.hid (HB1.out.trans (HB3.out.mono HB1.out.size))
    have HH3 := Lib.hid (HH1.out.later HB3.out)
    obtain ⟨a3, p3, rfl⟩ := own_val hown'
    clear hown' hgrow
    cases hr3 : rightB (l ++ l2)
    · have HP := Lib.hid (show bPut most l l2 = (2, l) from by unfold bPut; rw [HRi.out, hr3]; rfl)
      rw [hr3] at HR3
      clear hr3
      refine HR3.out.mono ?_
      rintro e w4 ⟨rfl, hb4⟩
      go_wp2
      go_ret
      rw [HP.out]
      simp only
      rw [HPk.out]
      exact ⟨rfl, BuN.self HH.out (HBw3.out.trans (hb4.mono HBw3.out.size))⟩
    · have HRi3 := Lib.hid hr3
      rw [hr3] at HR3
      clear hr3
      refine HR3.out.mono ?_
      rintro e w4 ⟨rfl, hb4⟩
      have HB4 := Lib.hid (HBw3.out.trans (hb4.mono HBw3.out.size))
      have HH4 := Lib.hid (HH3.out.later hb4)
      have H24 := Lib.hid (H2.out.later HB4.out)
      clear c0 hb4
      have c0 := (block_cell' HH4.out.blk 0).1
      by_cases hm : l.length + l2.length ≤ most
      · have HP := Lib.hid (show bPut most l l2 = (0, l ++ l2) from by unfold bPut; rw [HRi.out, HRi3.out, if_pos rfl, if_pos rfl, if_pos hm])
        have HPu := Lib.hid (arPut w4 HH4.out.ar H24.out.at' hm (by rw [← HN.out, ← HN2.out]; omega) HH4.out.bw)
        clear hm
        go_wp2_with fail
        refine HPu.out.mono ?_
        rintro e w5 ⟨rfl, hn⟩
        have HNw := Lib.hid hn
        clear hn c0
        go_wp2
        go_ret
        rw [HP.out]
        exact ⟨rfl, (BuN.of HH4.out HNw.out HRi3.out HT3.out.ok (by rw [List.length_append, ← HN.out, ← HN2.out]; exact hl)).before HB4.out⟩
      · have HP := Lib.hid (show bPut most l l2 = (12, l) from by unfold bPut; rw [HRi.out, HRi3.out, if_pos rfl, if_pos rfl, if_neg hm])
        have HPu := Lib.hid (arPut_full w4 HH4.out.ar H24.out.at' (by omega))
        clear hm
        go_wp2_with fail
        refine HPu.out.mono ?_
        rintro e w5 ⟨rfl, q, rfl⟩
        clear c0
        go_wp2
        go_ret
        rw [HP.out]
        simp only
        rw [HPk.out]
        exact ⟨rfl, BuN.self HH.out (below_draws HB4.out q)⟩
end Go.Proofs.YtadkjjpopmiceaaGreat
