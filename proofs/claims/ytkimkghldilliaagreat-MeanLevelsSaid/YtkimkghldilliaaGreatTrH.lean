/-
  tree: after, some, roots, kids.
-/
import Derived.Test.YtkimkghldilliaaGreatTrF
namespace Go.Proofs.YtkimkghldilliaaGreat
open Go.RowKit Go.Lib

theorem For.kid_len {l : List Tw} {lo hi a : Int} {n e : Nat} {rs : List Nat} (h : For l lo hi a n e rs) {i : Nat} (h1 : n ≤ i) (h2 : i < e) : 0 ≤ (atT l i).kids ∧ (atT l i).kids ≤ l.length := by
  obtain ⟨m, ks, hs, -⟩ := h.sub i h1 h2
  have hl := hs.lt
  have := hs.2.2.2.len_le
  have := hs.2.2.1
  omega
theorem sm_ge (l : List Tw) (a : Nat) : ∀ j, (∀ i, a ≤ i → i < a + j → 0 ≤ (atT l i).kids) → - (j : Int) ≤ sm l a j
  | 0, _ => by simp [sm]
  | j + 1, h => by
    have := sm_ge l a j (fun i h1 h2 => h i h1 (by omega))
    have := h (a + j) (by omega) (by omega)
    simp only [sm]
    omega
theorem Sub.left {l : List Tw} {n m : Nat} {ks : List Nat} (h : Sub l n m ks) {i : Nat} (hi : i ≤ m - n) : 0 ≤ 1 + sm l n i ∧ 1 + sm l n i ≤ l.length ∧ (i < m - n → 0 < 1 + sm l n i) ∧ (i < m - n → 0 ≤ (atT l (n + i)).kids ∧ (atT l (n + i)).kids ≤ l.length) := by
  obtain ⟨h1, h2⟩ := h.sum
  have hlt := h.lt
  obtain ⟨a1, a2, a3, a4⟩ := h
  have hF : For l (atT l n).fr (atT l n).to (atT l n).fr n m [n] := .cons a1 a2 (by simp) (by simp) (by simp) a4 a3 .nil
  have hg := sm_ge l (n + i) (m - n - i) (fun j j1 j2 => (hF.kid_len (i := j) (by omega) (by omega)).1)
  have hadd := sm_add l n i (m - n - i)
  rw [show i + (m - n - i) = m - n from by omega] at hadd
  refine ⟨?_, by omega, fun h => h2 i h, fun h => hF.kid_len (by omega) (by omega)⟩
  by_cases he : i = m - n
  · rw [he]; omega
  · have := h2 i (by omega); omega
set_option maxHeartbeats 1000000 in
theorem after_any {l : List Tw} {n m : Nat} {ks : List Nat} (v : Value) (w : World) (h : TwAt w v l) (hs : Sub l n m ks) (hl : l.length ≤ 1000000) :
    Calls Tryz.prog 88 #[v, .int .i64 n] w fun e w' => e = .returned (.int .i64 m) ∧ w = w' := by
  have H := Lib.hid h
  obtain ⟨ao, cap, rfl⟩ := h.val
  obtain ⟨len, hlen⟩ : ∃ len, len = l.length := ⟨_, rfl⟩
  have HLe := Lib.hid hlen
  rw [← hlen] at hl H ⊢
  have HS := Lib.hid hs
  have hm := hs.lt
  obtain ⟨hnm, hml⟩ := hm
  rw [← hlen] at hml
  clear h hs hlen
  go_enter Tryz.func88, Tryz.ntmps88
  go_wp2
  go_loop [1, 5] (fun a b => ∃ i : Nat, i ≤ m - n ∧ a = .int .i64 ((n + i : Nat) : Int) ∧ b = .int .i64 (1 + sm l n i)) (fun a _ => m - (intOf a).toNat)
  case atStart => exact ⟨0, by omega, rfl, rfl⟩
  case round =>
    obtain ⟨i, hi, rfl, rfl⟩ := hrel
    obtain ⟨h1, h2, h3, h4⟩ := HS.out.left hi
    rw [← HLe.out] at h2 h4
    obtain ⟨lf, hlf⟩ : ∃ lf, lf = 1 + sm l n i := ⟨_, rfl⟩
    obtain ⟨p, hp⟩ : ∃ p, p = n + i := ⟨_, rfl⟩
    rw [← hlf] at h1 h2 h3 ⊢
    rw [← hp] at h4 ⊢
    by_cases hlt : i < m - n
    · have g3 := h3 hlt
      obtain ⟨g4, g5⟩ := h4 hlt
      obtain ⟨b, off, rfl, -, -, -, -, -, e4⟩ := H.out.cells.2.2.2.2 p (by rw [← HLe.out]; omega)
      obtain ⟨kk, hkk⟩ : ∃ kk, kk = (atT l p).kids := ⟨_, rfl⟩
      rw [← atT_get l (by rw [← HLe.out]; omega), ← hkk] at e4
      rw [← hkk] at g4 g5
      have hp2 : (p : Int) < len := by omega
      have HLf := Lib.hid hlf
      have HP := Lib.hid hp
      have HK := Lib.hid hkk
      clear h3 h4 hlf hkk
      have hpl : p ≤ 1000000 := by omega
      clear hp
      go_wp2
      go_round
      case rel => exact ⟨i + 1, by omega, by rw [HP.out]; go_num, by rw [show (1 + sm l n (i + 1) : Int) = lf + (kk - 1) from by rw [HLf.out, HK.out, HP.out]; simp only [sm]; omega]⟩
      case measure => have := HP.out; simp [intOf]; omega
    · have hlf0 : lf = 0 := by
        have := HS.out.sum.1
        rw [hlf, show i = m - n from by omega]
        exact this
      have hpm : p = m := by omega
      subst hlf0
      clear hlf
      go_wp2
      go_ret
      exact ⟨ret_int' (by omega), rfl⟩
theorem Tryz.infoInt : (Tryz.prog.info? 3).map (fun i => (i.zero, i.size, i.bytes)) = some (some (.int .i64 0), 1, 8) := by kernel_rfl
abbrev nats (l : List Nat) : List Value := l.map fun i : Nat => .int .i64 (i : Int)
theorem nats_one (l : List Nat) : ∀ u ∈ nats l, u.oneCell' = true := by intro u hu; obtain ⟨x, -, rfl⟩ := List.mem_map.1 hu; rfl
/-- a row of numbers of the call's own. -/
def OwnN (base : Nat) (w : World) (v : Value) (l : List Nat) : Prop := w.ownsRow base 3 1 v l.length (nats l)
/-- trees that stand behind one another: what is left of them. -/
theorem For.split {l : List Tw} {lo hi a : Int} {n e : Nat} {rs : List Nat} (h : For l lo hi a n e rs) (hn : n < e) : ∃ m ks rs', rs = n :: rs' ∧ Sub l n m ks ∧ For l lo hi (atT l n).to m e rs' := by
  cases h with
  | nil => omega
  | @cons lo hi a n m e ks rs h0 hk hlo hhi ha h3 h5 h4 => exact ⟨m, ks, rs, rfl, ⟨h0, hk, h5, h3⟩, h4⟩
set_option maxRecDepth 100000 in
set_option maxHeartbeats 1000000 in
theorem some_any {l : List Tw} {lo hi a : Int} {n e : Nat} {rs : List Nat} (v : Value) (w : World) (h : TwAt w v l) (hF : For l lo hi a n e rs) (hl : l.length ≤ 1000000) (hel : e ≤ l.length) :
    Calls Tryz.prog 87 #[v, .int .i64 n, .int .i64 e] w fun en w' => ∃ v', en = .returned v' ∧ OwnN w.heap.size w' v' rs ∧ Below w.heap.size w w' := by
  have H := Lib.hid h
  obtain ⟨ao, cap, rfl⟩ := h.val
  obtain ⟨len, hlen⟩ : ∃ len, len = l.length := ⟨_, rfl⟩
  have HLe := Lib.hid hlen
  rw [← hlen] at hl hel H ⊢
  have HF := Lib.hid hF
  have hne := hF.le
  obtain ⟨i0, hi0, hz0, hz1, hz2⟩ := info_parts Tryz.infoInt
  clear h hF hlen
  go_enter Tryz.func87, Tryz.ntmps87
  go_wp2
  go_loopw [1, 6] (fun p v wr => ∃ (i : Nat) (done rest : List Nat), i ≤ e ∧ p = .int .i64 i ∧ OwnN w.heap.size wr v done ∧ Below w.heap.size w wr ∧ Hid (done ++ rest = rs) ∧ Hid (∃ a', For l lo hi a' i e rest) ∧ done.length ≤ i) (fun p _ _ => e - (intOf p).toNat)
  case atStart => exact ⟨n, [], rs, hne, rfl, World.ownsRow_nil _ _ _ _, Below.refl _ _, Lib.hid rfl, Lib.hid ⟨a, HF.out⟩, Nat.zero_le _⟩
  case round =>
    obtain ⟨i, done, rest, hie, rfl, hown, hbel, HR, HI, hdl⟩ := hrel
    by_cases hlt : i < e
    · have hlt2 : (i : Int) < e := by omega
      obtain ⟨a', hI⟩ := HI.out
      obtain ⟨m, ks, rest', hr', hs, hF'⟩ := hI.split hlt
      have HS := Lib.hid hs
      have HF' := Lib.hid hF'
      have HR' := Lib.hid hr'
      have hm1 := hs.lt.1
      have hm2 := hF'.le
      have hsz := hbel.size
      have hdl2 : done.length ≤ 1000000 := by omega
      have HOwn := Lib.hid hown
      unfold OwnN at hown
      obtain ⟨dl, hdlv⟩ : ∃ dl, dl = done.length := ⟨_, rfl⟩
      rw [← hdlv] at hown hdl hdl2
      have HDl := Lib.hid hdlv
      have HB := Lib.hid hbel
      clear hI hs hF' hr' hdlv hbel
      go_wp2_with (at_builtin; refine wpList_append_own _ rfl (.tmp 10) (.tmp 12) 52 rfl w.heap.size 3 i0 _ 1 8 Tryz.underlying52 hi0 hz0 hz1 hz2 rfl (by decide) _ dl _ rfl (hown.alloc _) ⟨wr.heap.size, 0, none⟩ 1 1 [.int .i64 i] rfl rfl (World.news_of_block (cs := #[.int .i64 i]) (t := 3) (fr := (0, 0)) (heap_alloc_new wr _)) (by simp [Value.oneCell']) (by unfold maxLen; omega) (by omega) (by simp; omega) ?_; intro v' w1 hown' hgrow _)
      have HB1 := Lib.hid (HB.out.trans (((Below.refl w.heap.size wr).alloc hsz _).grown hgrow (by simp; omega) (fun r hr => (HOwn.out.lt r hr).1)))
      have HO1 := Lib.hid hown'
      have HA := Lib.hid (after_any _ w1 ((H.out.later HB1.out)) HS.out (by rw [← HLe.out]; exact hl))
      clear hown' hgrow hown
      refine HA.out.mono ?_
      rintro en w2 ⟨rfl, rfl⟩
      go_wp2
      go_roundw
      case rel => exact ⟨m, done ++ [i], rest', hm2, rfl, by
        have := HO1.out
        unfold OwnN
        simp only [List.map_append, List.length_append, List.map_cons, List.map_nil, List.length_singleton]
        rw [← HDl.out]
        exact this, HB1.out, Lib.hid (by rw [← HR.out, HR'.out]; simp), Lib.hid ⟨_, HF'.out⟩, by have := HDl.out; simp; omega⟩
      case measure => simp [intOf]; omega
    · have hlt2 : ¬ (i : Int) < e := by omega
      have hre : rest = [] := by
        obtain ⟨a', hI⟩ := HI.out
        cases hI with
        | nil => rfl
        | cons h0 _ _ _ _ h3 _ h4 =>
          have := h3.le
          have := h4.le
          omega
      have HRe := Lib.hid hre
      clear hre
      go_wp2
      go_ret
      refine ⟨_, rfl, ?_, hbel⟩
      have := HR.out
      rw [HRe.out, List.append_nil] at this
      rw [← this]
      exact hown
end Go.Proofs.YtkimkghldilliaaGreat
