/-
  tree.Build: Back, Since, Put.
-/
import Derived.Test.YtadkjjpopmiceaaTax
namespace Go.Proofs.Ytadkjjpopmiceaa
open Go.RowKit Go.Lib

def bBack (l : List Tw) (m : Int) : Int × List Tw := if isMark l m = true then (0, l.take m.toNat) else (2, l)
def bPut (most : Nat) (l l2 : List Tw) : Int × List Tw :=
  if rightB l2 = true then (if rightB (l ++ l2) = true then (if l.length + l2.length ≤ most then (0, l ++ l2) else (12, l)) else (2, l)) else (4, l)
theorem mark_le {l : List Tw} {n : Int} (h : isMark l n = true) (hr : rightB l = true) : ∃ m : Nat, n = m ∧ m ≤ l.length := by
  simp [isMark, anyN] at h
  rcases h with h | ⟨x, hx, h⟩
  · exact ⟨l.length, h, Nat.le_refl _⟩
  · obtain ⟨rs, hF⟩ := (rightB_iff l).1 hr
    rw [topR_of hr hF] at hx
    have := hF.root x hx
    exact ⟨x, h.symm, by omega⟩
/-- a forest is parted at a root. -/
theorem For.at_root {l : List Tw} {lo hi a : Int} {n e : Nat} {rs : List Nat} (h : For l lo hi a n e rs) : ∀ r ∈ rs, ∃ r1 r2, rs = r1 ++ r2 ∧ (∀ x ∈ r1, x < r) ∧ (∀ x ∈ r2, r ≤ x) ∧ For l lo hi a n r r1 ∧ ∃ a', For l lo hi a' r e r2 := by
  induction h with
  | nil => intro r hr; simp at hr
  | @cons lo hi a n m e ks rs h0 hk hlo hhi ha h3 h5 h4 h1 h2 =>
    intro r hr
    have hF : For l lo hi a n e (n :: rs) := .cons h0 hk hlo hhi ha h3 h5 h4
    have g3 := h3.le
    rcases List.mem_cons.1 hr with rfl | hr
    · exact ⟨[], r :: rs, rfl, by simp, fun x hx => (hF.root x hx).1, .nil, a, hF⟩
    · obtain ⟨r1, r2, e1, e2, e3, e4, a', e5⟩ := h2 r hr
      have hmr := h4.root r hr
      refine ⟨n :: r1, r2, by rw [e1]; rfl, fun x hx => ?_, e3, .cons h0 hk hlo hhi ha h3 h5 e4, a', e5⟩
      rcases List.mem_cons.1 hx with rfl | hx
      · omega
      · exact e2 x hx
theorem For.at_mark {l : List Tw} {n : Nat} (h : rightB l = true) (hm : isMark l n = true) : ∃ r1 r2 a', topR l = r1 ++ r2 ∧ (∀ x ∈ r1, x < n) ∧ (∀ x ∈ r2, n ≤ x) ∧ For l 0 9223372036854775807 0 0 n r1 ∧ For l 0 9223372036854775807 a' n l.length r2 := by
  obtain ⟨rs, hF⟩ := (rightB_iff l).1 h
  rw [topR_of h hF]
  simp [isMark, anyN, topR_of h hF] at hm
  rcases hm with hm | ⟨x, hm, hxe⟩
  · obtain rfl : n = l.length := by omega
    exact ⟨rs, [], 0, by simp, fun x hx => (hF.root x hx).2, by simp, hF, .nil⟩
  · obtain rfl : x = n := by omega
    obtain ⟨r1, r2, e1, e2, e3, e4, a', e5⟩ := hF.at_root x hm
    exact ⟨r1, r2, a', e1, e2, e3, e4, e5⟩
/-- what stands ahead of an end does not ask for more. -/
theorem For.take {l l' : List Tw} {lo hi a : Int} {n e : Nat} {rs : List Nat} (h : For l lo hi a n e rs) : (∀ i, n ≤ i → i < e → i < l'.length ∧ atT l' i = atT l i) → For l' lo hi a n e rs := by
  induction h with
  | nil => intro _; exact .nil
  | @cons lo hi a n m e ks rs h0 hk hlo hhi ha h3 h5 h4 h1 h2 =>
    intro hh
    have g3 := h3.le
    have g4 := h4.le
    obtain ⟨q1, q2⟩ := hh n (Nat.le_refl _) (by omega)
    have h1' := h1 (fun i i1 i2 => hh i (by omega) (by omega))
    have h2' := h2 (fun i i1 i2 => hh i (by omega) i2)
    rw [← q2] at hk hlo hhi ha h1' h2' h5
    exact .cons q1 hk hlo hhi ha h1' h5 h2'
theorem atT_take {l : List Tw} {n i : Nat} (h : i < n) : atT (l.take n) i = atT l i := by
  simp [atT, List.getD_eq_getElem?_getD, h]
theorem right_take {l : List Tw} {n : Nat} (h : rightB l = true) (hm : isMark l n = true) : rightB (l.take n) = true := by
  obtain ⟨r1, r2, a', -, -, -, h1, -⟩ := For.at_mark h hm
  obtain ⟨m, hm1, hm2⟩ := mark_le hm h
  have hnm : n ≤ l.length := by omega
  have hl : (l.take n).length = n := by rw [List.length_take]; omega
  refine (rightB_iff _).2 ⟨r1, ?_⟩
  rw [hl]
  exact h1.take (fun i i1 i2 => ⟨by rw [hl]; exact i2, atT_take i2⟩)
set_option maxHeartbeats 1000000 in
theorem buBack {B : Nat} {b x : Nat} {v : Value} {l : List Tw} {most peak : Nat} (n : Int) (w : World) (h : BuI B w b x v l most peak) :
    Calls Try.prog 20 #[.pointer (some ⟨b, 0, none⟩), .int .i64 n] w fun e w' => e = .returned (.int .i64 (bBack l n).1) ∧ BuN B w b x v (bBack l n).2 most peak w' := by
  have HM := Lib.hid (buMade w h)
  have HMk := Lib.hid (stMark n w h)
  have HH := Lib.hid h
  have c0 := (block_cell' h.blk 0).1
  clear h
  cases hm : isMark l n
  · have HB := Lib.hid (show bBack l n = (2, l) from by unfold bBack; rw [hm]; rfl)
    rw [hm] at HMk
    clear hm
    go_enter Try.func20, Try.ntmps20
    go_wp2_with fail
    refine HM.out.mono ?_
    rintro e w' ⟨rfl, rfl⟩
    go_wp2_with fail
    refine HMk.out.mono ?_
    rintro e w1 ⟨rfl, hb⟩
    go_wp2
    go_ret
    rw [HB.out]
    exact ⟨rfl, BuN.self HH.out hb⟩
  · obtain ⟨m, rfl, hml⟩ := mark_le hm HH.out.right
    have HB := Lib.hid (show bBack l m = (0, l.take m) from by unfold bBack; rw [hm, if_pos rfl, Int.toNat_natCast])
    have HR := Lib.hid (right_take HH.out.right hm)
    rw [hm] at HMk
    clear hm
    go_enter Try.func20, Try.ntmps20
    go_wp2_with fail
    refine HM.out.mono ?_
    rintro e w' ⟨rfl, rfl⟩
    go_wp2_with fail
    refine HMk.out.mono ?_
    rintro e w1 ⟨rfl, hb⟩
    have HBe := Lib.hid hb
    have HH1 := Lib.hid (HH.out.later hb)
    clear c0 hb
    have c0 := (block_cell' HH1.out.blk 0).1
    have HBk := Lib.hid (arBack w1 m HH1.out.ar hml)
    go_wp2_with fail
    refine HBk.out.mono ?_
    rintro e w2 ⟨rfl, hn⟩
    have HN := Lib.hid hn
    clear hn c0
    go_wp2
    go_ret
    rw [HB.out]
    exact ⟨rfl, (BuN.of HH1.out HN.out HR.out (fun t ht => HH1.out.ok t (List.mem_of_mem_take ht)) (by have := HH1.out.len; rw [List.length_take]; omega)).before HBe.out⟩
/-- what Since tells. -/
def SinceR (w : World) (l : List Tw) (n : Int) (e : Ending) (w' : World) : Prop :=
  ∃ v', e = .returned (.tuple #[v', .int .i64 (if isMark l n = true then 0 else 2)]) ∧ TwOwn w.heap.size w' v' (if isMark l n = true then l.drop n.toNat else []) ∧ Below w.heap.size w w'
set_option maxHeartbeats 2000000 in
theorem buSince {B : Nat} {b x : Nat} {v : Value} {l : List Tw} {most peak : Nat} (n : Int) (w : World) (h : BuI B w b x v l most peak) :
    Calls Try.prog 17 #[.pointer (some ⟨b, 0, none⟩), .int .i64 n] w fun e w' => SinceR w l n e w' := by
  have HM := Lib.hid (buMade w h)
  have HMk := Lib.hid (stMark n w h)
  have HH := Lib.hid h
  have c0 := (block_cell' h.blk 0).1
  clear h
  cases hm : isMark l n
  · have HB := Lib.hid hm
    rw [hm] at HMk
    clear hm
    go_enter Try.func17, Try.ntmps17
    go_wp2_with fail
    refine HM.out.mono ?_
    rintro e w' ⟨rfl, rfl⟩
    go_wp2_with fail
    refine HMk.out.mono ?_
    rintro e w1 ⟨rfl, hb⟩
    go_wp2
    go_ret2
    refine ⟨.slice none 0 0, by rw [HB.out]; rfl, ?_, hb⟩
    rw [HB.out]
    exact World.ownsRow_nil _ _ _ _
  · obtain ⟨m, rfl, hml⟩ := mark_le hm HH.out.right
    have HB := Lib.hid hm
    rw [hm] at HMk
    clear hm
    go_enter Try.func17, Try.ntmps17
    go_wp2_with fail
    refine HM.out.mono ?_
    rintro e w' ⟨rfl, rfl⟩
    go_wp2_with fail
    refine HMk.out.mono ?_
    rintro e w1 ⟨rfl, hb⟩
    have HBe := Lib.hid hb
    have HH1 := Lib.hid (HH.out.later hb)
    clear c0 hb
    have c0 := (block_cell' HH1.out.blk 0).1
    have HRo := Lib.hid (rowS_any w1 HH1.out.ar (by have := HH1.out.len; omega))
    go_wp2_with fail
    refine HRo.out.mono ?_
    rintro e w2 ⟨v2, rfl, ho2, hb2⟩
    have HB2 := Lib.hid (HBe.out.trans (hb2.mono HBe.out.size))
    have hlen := HH1.out.len
    obtain ⟨len, hle⟩ : ∃ len, len = l.length := ⟨_, rfl⟩
    have HLe := Lib.hid hle
    have fin : ∀ e w3, ToldT w2 (l.drop m) e w3 → ∀ ao n c, e = .returned (.slice ao n c) → SinceR w l m (.returned (.tuple #[.slice ao n c, .int .i64 0])) w3 := fun e w3 h ao n c he => by
      obtain ⟨v3, h1, h2, h3⟩ := h
      rw [he] at h1
      cases h1
      refine ⟨_, by rw [HB.out]; rfl, ?_, HB2.out.trans (h3.mono HB2.out.size)⟩
      rw [HB.out, if_pos rfl, Int.toNat_natCast]
      exact h2.lift HB2.out.size
    have Fin := Lib.hid fin
    unfold TwOwn at ho2
    rw [← hle] at hml hlen ho2
    have HO2 := Lib.hid ho2
    rcases ho2.2 with ⟨rfl, h0⟩ | ⟨g, cap, cur, rfl, -, -, hc1, hc2, -⟩
    · have hm0 : m = 0 := by omega
      subst hm0
      subst h0
      have HCl := Lib.hid (tClone_any (.slice none 0 0) w2 (TwAt.nil w2) (by simp))
      have HD := Lib.hid (show l.drop 0 = [] from by rw [List.drop_zero]; exact List.eq_nil_of_length_eq_zero HLe.out.symm)
      clear hle fin ho2 hb2 c0 hml hlen
      go_wp2_with fail
      refine HCl.out.mono ?_
      rintro e w3 ht
      obtain ⟨v3, rfl, ho3, hb3⟩ := ht
      obtain ⟨a3, p3, rfl⟩ := own_val ho3
      have HF := Lib.hid (Fin.out _ w3 (by rw [HD.out]; exact ⟨_, rfl, ho3, hb3⟩) _ _ _ rfl)
      clear ho3 hb3
      go_wp2
      go_ret2
      exact HF.out
    · unfold maxLen at hc2
      by_cases hmc : m = cap
      · have hmn : m = len := by omega
        subst hmc
        have HCl := Lib.hid (tClone_any (.slice (some ⟨g, 0, none⟩) 0 0) w2 (tw_empty w2 0 (Nat.zero_le _) g 0 (HO2.out.lt g rfl).2) (by simp))
        have HD := Lib.hid (show l.drop m = [] from List.drop_eq_nil_of_le (by rw [← HLe.out]; omega))
        subst hmn
        clear hle fin ho2 hb2 c0
        go_wp2_with fail
        refine HCl.out.mono ?_
        rintro e w3 ht
        obtain ⟨v3, rfl, ho3, hb3⟩ := ht
        obtain ⟨a3, p3, rfl⟩ := own_val ho3
        have HF := Lib.hid (Fin.out _ w3 (by rw [HD.out]; exact ⟨_, rfl, ho3, hb3⟩) _ _ _ rfl)
        clear ho3 hb3
        go_wp2
        go_ret2
        exact HF.out
      · have hmc2 : m < cap := by omega
        have hmc3 : (m : Int) < cap := by omega
        have hmi : (m : Int) ≤ len := by omega
        have HCl := Lib.hid (tClone_any (.slice (some ⟨g, m * 5, none⟩) (len - m) (cap - m)) w2 (by
          have := own_part HO2.out m len (m * 5) (cap - m) (by omega) (Nat.le_refl _) (.inr rfl) ⟨by omega, by unfold maxLen; omega⟩
          rwa [List.take_of_length_le (by rw [HLe.out]; exact Nat.le_refl _)] at this) (by rw [List.length_drop]; omega))
        clear hle fin ho2 hb2 c0
        go_wp2_with fail
        refine HCl.out.mono ?_
        rintro e w3 ht
        obtain ⟨v3, rfl, ho3, hb3⟩ := ht
        obtain ⟨a3, p3, rfl⟩ := own_val ho3
        have HF := Lib.hid (Fin.out _ w3 (by exact ⟨_, rfl, ho3, hb3⟩) a3 (l.length - m) p3 (by rw [List.length_drop]))
        clear ho3 hb3
        go_wp2
        go_ret2
        exact HF.out
end Go.Proofs.Ytadkjjpopmiceaa
