/-
  A queue gone through: the iterator's word.
-/
import Derived.Test.YtcpcgpanmoellaaHsE
namespace Go.Proofs.Ytcpcgpanmoellaa
open Go.RowKit Go.Shelf
attribute [local go_sem] Oper.semAt_some

/-- what a round keeps: things' blocks, but for X. -/
def KpE (X : Nat → Prop) (A B : World) : Prop := A.heap.size ≤ B.heap.size ∧ ∀ k cs fr, ¬ X k → A.heap[k]? = some (.cells cs 67 fr) → B.heap[k]? = some (.cells cs 67 fr)
theorem KpE.refl (X : Nat → Prop) (A : World) : KpE X A A := ⟨Nat.le_refl _, fun _ _ _ _ h => h⟩
theorem KpE.trans {X : Nat → Prop} {A B C : World} (h : KpE X A B) (k : KpE X B C) : KpE X A C := ⟨Nat.le_trans h.1 k.1, fun i cs fr hi ho => k.2 i cs fr hi (h.2 i cs fr hi ho)⟩
theorem KpE.ofBelow {X : Nat → Prop} {A B : World} (h : Below A.heap.size A B) : KpE X A B := ⟨h.size, fun k cs fr _ ho => (h.block k (lt_of_block ho)).trans ho⟩
theorem KpE.putObj {X : Nat → Prop} (W : World) (l : Nat) (o o' : Obj) (h : W.heap[l]? = some o) (hc : o.isCells = false) : KpE X W (W.putObj l o') := by
  have hlt := (Array.getElem?_eq_some_iff.1 h).1
  have hg := grownBy_putObj' W l o'
  refine ⟨hg.size, fun k cs fr _ ho => (hg.block k (lt_of_block ho) (fun e => ?_)).trans ho⟩
  simp only [Option.some.injEq] at e
  subst e
  rw [ho] at h
  cases h
  cases hc
abbrev itv (x : En) : Value := .agg #[.int .i64 x.key, .int .i64 x.name]
set_option maxRecDepth 100000 in
set_option maxHeartbeats 4000000 in
theorem qall1_in [Watch] (n : Nat) (hn : 5 ≤ n) (l Bq base q : Nat) (t : Int) (M : List En) (X : Nat → Prop) (J Jx : List En → World → Prop) (W : World) (tp : TypeId)
    (hY : ∀ pre x W1, J pre W1 → pre.length < M.length → YieldAt Fence.wide (n - 1) Try.prog l #[itv x] W1 fun e W' =>
      (e = .returned (.bool true) ∧ J (pre ++ [x]) W' ∧ KpE X W1 W') ∨ (e = .returned (.bool false) ∧ Jx (pre ++ [x]) W'))
    (hJ : AbidesFrom W.heap.size J) (hX : ∀ k, X k → k < W.heap.size) (hBq : W.heap[Bq]? = some (.cells #[.pointer (some ⟨q, 0, none⟩)] tp (0, 0))) (hq : Qu base W q t M) (h0 : J [] W) :
    CallsIn Fence.wide n Try.prog 31 #[.func (.yield l) #[] #[], .pointer (some ⟨Bq, 0, none⟩)] W fun e W' => (∃ v, e = .returned v) ∧
      ((∃ ys, (ys.Perm M ∧ ys.Pairwise En.le) ∧ J ys W') ∨ (∃ pre, (∃ S, S.Perm M ∧ S.Pairwise En.le ∧ pre <+: S) ∧ Jx pre W')) := by
  have hgr : ∀ A B : World, Below A.heap.size A B → A.grownBy B none := fun A B h => ⟨h.os, h.tape, h.output, h.size, fun k hk _ => h.block k hk⟩
  have h1n : 1 ≤ n := by omega
  have HM := Lib.hid (quMade W hq)
  obtain ⟨⟨r, m, lv, L, hqi, hpm⟩, -⟩ := hq
  have hle := hqi.row.le
  obtain ⟨ao, cap, rfl⟩ := own_val hqi.row.row
  obtain ⟨d0, -, -⟩ := hqi.row.cells
  obtain ⟨c0, -⟩ := two_box hqi.blk
  have hb0 : W.cell? ⟨Bq, 0, none⟩ = some (.pointer (some ⟨q, 0, none⟩)) := by simp [World.cell?, hBq]
  have hal := (Below.refl W.heap.size W).alloc (Nat.le_refl _) (.cells #[.slice ao L.length cap] 60)
  have HSr := Lib.hid (sortedFunc_any W.heap.size base _ L hle _ (Boxed.cell (Boxed.new W 60 (.slice ao L.length cap))) (hqi.row.row.alloc _))
  have HAl := Lib.hid hal
  have HPm := Lib.hid hpm
  obtain ⟨nn, hnn⟩ : ∃ nn, nn = L.length := ⟨_, rfl⟩
  rw [← hnn] at HSr d0 HAl
  have HNn := Lib.hid hnn
  have HX := Lib.hid hX
  clear hal hpm hqi hBq hnn hX
  refine callsIn_of_wp Try.func31 rfl trivial ?_ rfl
  simp only [Try.ntmps31, List.size_toArray, List.length_cons, List.length_nil, Nat.reduceAdd, Nat.reduceSub, Array.replicate_succ, Array.replicate_zero, List.push_toArray, List.append_toArray, List.nil_append, List.cons_append]
  gi_wp2_with (refine ⟨trivial, ?_⟩; first
    | (gi_at_call 23; refine (callsIn_wide.2 HM.out).mono ?_; rintro e w' ⟨rfl, rfl⟩)
    | (gi_at_call 33; refine (callsIn_wide.2 (values_any _ _ _ _)).mono ?_; rintro e w' ⟨rfl, rfl⟩)
    | (gi_at_call 32; refine (callsIn_wide.2 HSr.out).mono ?_; rintro e W2 ⟨v, S, rfl, hp, hs, hown, hb⟩; obtain ⟨sao, scap, rfl⟩ := own_val hown))
  have hlen : S.length = nn := by rw [hp.length_eq, HNn.out]
  have hMlen : nn = M.length := by rw [HNn.out]; exact HPm.out.length_eq
  have hb2 : Below W.heap.size W W2 := HAl.out.trans (hb.mono HAl.out.size)
  have hJ2 : J [] W2 := hJ _ _ _ none h0 (hgr _ _ hb2) (fun r e => by cases e)
  have hnx : ∀ g, (Value.slice sao S.length scap).ownBlock = some g → ¬ X g := fun g hg hx => by
    have h1 := HX.out g hx
    have h2 : W.heap.size + 1 ≤ g := by
      rcases hown.2 with ⟨e, _⟩ | ⟨g', cap', cur, e, hbg, hgb, _⟩
      · rw [e] at hg; simp [Value.ownBlock] at hg
      · rw [e] at hg; simp [Value.ownBlock] at hg; subst hg; simpa using hbg
    omega
  have hrow : ∀ wr, KpE X W2 wr → 0 < S.length → ∃ g, sao = some ⟨g, 0, none⟩ ∧ CellsE wr g S := fun wr hk hpos => by
    obtain ⟨g, cap', hv⟩ := own_shape hown hpos
    simp only [Value.slice.injEq] at hv
    obtain ⟨rfl, -, rfl⟩ := hv
    refine ⟨g, rfl, fun i hi => ?_⟩
    have hown2 : wr.ownsRow (W.alloc (.cells #[.slice ao nn cap] 60)).heap.size 67 3 (.slice (some ⟨g, 0, none⟩) S.length scap) S.length (S.flatMap enc) := by
      obtain ⟨g', cap', cur, e, hbg, hgb, rest⟩ := hown.2.resolve_left (fun h => by simp at h)
      simp only [Value.slice.injEq, Option.some.injEq, Addr.mk.injEq] at e
      obtain ⟨⟨rfl, -⟩, -, rfl⟩ := e
      exact ⟨hown.1, .inr ⟨g, scap, cur, rfl, hbg, hk.2 g _ _ (hnx g rfl) hgb, rest⟩⟩
    exact (row3 hown2 i hi).1
  have HRow := Lib.hid hrow
  have HLen := Lib.hid hlen
  have HMl := Lib.hid hMlen
  have HP := Lib.hid hp
  have HSs := Lib.hid hs
  have hsz2 := hb2.size
  rw [hlen] at HRow ⊢
  have hle2 : nn ≤ 100000 := by rw [HNn.out]; exact hle
  clear hown hp hs hb hnx hrow hlen hMlen hb2 h0 hle
  gi_wp2
  gi_loopw [18] (fun i wr => ∃ k : Nat, k ≤ nn ∧ i = .int .i64 k ∧ J (S.take k) wr ∧ KpE X W2 wr) (fun i _ => nn - (intOf i).toNat)
  case atStart => exact ⟨0, Nat.zero_le _, rfl, hJ2, KpE.refl _ _⟩
  case round =>
    obtain ⟨k, hk, rfl, hJs, hK⟩ := hrel
    by_cases hlt : k < nn
    · have hlt2 : (k : Int) < nn := by omega
      obtain ⟨g, rfl, hce⟩ := HRow.out wr hK (by omega)
      obtain ⟨x0, x1, x2⟩ := hce k (by rw [HLen.out]; exact hlt)
      have hJ3 : J (S.take k) (wr.alloc (.cells #[.int .i64 (pos S k).key, .int .i64 (pos S k).name, .int .i64 (pos S k).turn] 67)) := hJ _ _ _ none hJs (World.grownBy_alloc _ _ _) (fun r e => by cases e)
      have hK3 : KpE X W2 (wr.alloc (.cells #[.int .i64 (pos S k).key, .int .i64 (pos S k).name, .int .i64 (pos S k).turn] 67)) := hK.trans (KpE.ofBelow ((Below.refl _ _).alloc (Nat.le_refl _) _))
      obtain ⟨fn, tmps, assign, body, hy, hR⟩ := hY _ (pos S k) _ hJ3 (by rw [List.length_take, HLen.out, ← HMl.out]; omega)
      have hsn : S.take k ++ [pos S k] = S.take (k + 1) := by rw [pos_get (by rw [HLen.out]; exact hlt), List.take_succ_eq_append_getElem (by rw [HLen.out]; exact hlt)]
      rw [hsn] at hR
      have HK3 := Lib.hid hK3
      clear hsn hce hJ3 hK3 hK
      gi_wp2
      refine hR.mono ?_
      rintro e W3 (⟨rfl, hJ4, hk4⟩ | ⟨rfl, hJx4⟩)
      · gi_wp2
        go_roundw
        case rel => exact ⟨k + 1, by omega, by go_num, hJ4, HK3.out.trans hk4⟩
        case measure => simp [intOf]; omega
      · gi_wp2
        refine bodyPost_ret (results_none rfl _ _ _) rfl ?_
        exact ⟨⟨_, rfl⟩, .inr ⟨_, ⟨S, HP.out.trans HPm.out, HSs.out, List.take_prefix _ _⟩, hJx4⟩⟩
    · have hkn : k = nn := by omega
      have hlt2 : ¬ (k : Int) < nn := by omega
      have hJ5 : J S wr := by
        have := hJs
        rw [hkn, ← HLen.out, List.take_length] at this
        exact this
      clear hJs hkn
      gi_wp2
      go_end0
      first
        | exact ⟨⟨_, rfl⟩, .inl ⟨S, ⟨HP.out.trans HPm.out, HSs.out⟩, hJ5⟩⟩
        | exact .inl ⟨S, ⟨HP.out.trans HPm.out, HSs.out⟩, hJ5⟩
theorem qall_stops [Watch] (n : Nat) (hn : 5 ≤ n) (Bq base q : Nat) (t : Int) (M : List En) (X : Nat → Prop) (w : World) (tp : TypeId) (hX : ∀ k, X k → k < w.heap.size) (hBq : w.heap[Bq]? = some (.cells #[.pointer (some ⟨q, 0, none⟩)] tp (0, 0))) (hq : Qu base w q t M) :
    SeqStopsK Fence.wide n Try.prog 31 #[.pointer (some ⟨Bq, 0, none⟩)] (fun x : En => #[itv x]) (KpE X) (fun ys => ys.Perm M ∧ ys.Pairwise En.le) (fun pre => ∃ S : List En, S.Perm M ∧ S.Pairwise En.le ∧ pre <+: S) M.length w := fun l J Jx W hW hJ _ hY h0 =>
  qall1_in n hn l Bq base q t M X J Jx W tp hY hJ (fun k hk => Nat.lt_of_lt_of_le (hX k hk) hW.size) ((hW.block _ (lt_of_block hBq)).trans hBq) (hq.later hW) h0
theorem kpE_b {X : Nat → Prop} {w : World} (W : World) (l : Nat) (o o' : Obj) (_ : w.heap.size ≤ l) (h : W.heap[l]? = some o) (hc : o.isCells = false) (_ : o.isWalk = false) : KpE X W (W.putObj l o') := KpE.putObj W l o o' h hc
theorem qAll_any (p : Option Addr) (w : World) :
    Calls Try.prog 16 #[.pointer p] w fun e w' => e = .returned (.func (.func 31) #[] #[.pointer (some ⟨w.heap.size, 0, none⟩)]) ∧ w' = w.alloc (.cells #[.pointer p] 24) := by
  go_enter Try.func16, Try.ntmps16
  go_wp2
  go_ret
  exact ⟨rfl, rfl⟩
end Go.Proofs.Ytcpcgpanmoellaa
