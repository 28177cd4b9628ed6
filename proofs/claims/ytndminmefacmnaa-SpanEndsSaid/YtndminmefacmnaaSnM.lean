/-
  gaps: the iterator's word.
-/
import Derived.Test.YtndminmefacmnaaSnL
import Derived.Test.YtndminmefacmnaaStr4
import Derived.Test.YtndminmefacmnaaApr
import Derived.ControlIn
namespace Go.Proofs.Ytndminmefacmnaa
open Go.RowKit Go.Shelf
attribute [local go_sem] Oper.semAt_some

/-- a row of spans that is newer than b. -/
def isT (b : Nat) (k : Nat) (o : Obj) : Prop := b ≤ k ∧ ∃ cs fr, o = .cells cs 23 fr
theorem not_isT {b k : Nat} {cs : Array Value} {t : TypeId} {fr : Nat × Nat} (h : t ≠ 23 ∨ k < b) : ¬ isT b k (.cells cs t fr) := by
  rintro ⟨h1, cs', fr', h2⟩
  simp only [Obj.cells.injEq] at h2
  rcases h with h | h
  · exact h h2.2.1
  · omega
/-- what lies stays, but where X, and but for new rows of spans. -/
def KpT (b : Nat) (X : Nat → Prop) (A B : World) : Prop := A.heap.size ≤ B.heap.size ∧ ∀ k o, ¬ X k → ¬ isT b k o → A.heap[k]? = some o → B.heap[k]? = some o
theorem KpT.refl (b : Nat) (X : Nat → Prop) (A : World) : KpT b X A A := ⟨Nat.le_refl _, fun _ _ _ _ h => h⟩
theorem KpT.trans {b : Nat} {X : Nat → Prop} {A B C : World} (h : KpT b X A B) (k : KpT b X B C) : KpT b X A C := ⟨Nat.le_trans h.1 k.1, fun i o hi ht ho => k.2 i o hi ht (h.2 i o hi ht ho)⟩
theorem KpT.putObj {b : Nat} {X : Nat → Prop} (W : World) (l : Nat) (o' : Obj) (hl : X l) {o : Obj} (h : W.heap[l]? = some o) : KpT b X W (W.putObj l o') :=
  ⟨by have := (grownBy_putObj' W l o').size; exact this, fun k o hk _ ho => (World.putObj_heap_other (show k ≠ l from fun e => hk (by rw [e]; exact hl))).trans ho⟩
theorem KpT.ofBelow {b : Nat} {X : Nat → Prop} {A B : World} (h : Below A.heap.size A B) : KpT b X A B := ⟨h.size, fun k o _ _ ho => (h.block k (Array.getElem?_eq_some_iff.1 ho).1).trans ho⟩
/-- a row of lines stays. -/
theorem KpT.row {b : Nat} {X : Nat → Prop} {A B : World} (h : KpT b X A B) {B0 n : Nat} {v : Value} {xs : List Value} (hr : A.ownsRow B0 53 2 v n xs) (hx : ∀ g, v.ownBlock = some g → ¬ X g) : B.ownsRow B0 53 2 v n xs := by
  refine ⟨hr.1, ?_⟩
  rcases hr.2 with h0 | ⟨g, cap, cur, rfl, hb, hg, rest⟩
  · exact .inl h0
  · exact .inr ⟨g, cap, cur, rfl, hb, h.2 _ _ (hx g rfl) (not_isT (.inl (by decide))) hg, rest⟩
theorem sweep_cons (hi : Int) (o : Sg) (r : List Sg) (p : Int) : sweep hi (o :: r) p = (if o.fr > p then [⟨p, min o.fr hi⟩] else []) ++ (if max p o.to ≥ hi then [] else sweep hi r (max p o.to)) := rfl
theorem keeps_grown {W w1 : World} {o : Obj} {v : Value} (hg : (W.alloc o).grownBy w1 v.ownBlock) : Keeps (fun k => v.ownBlock = some k) W w1 :=
  (Keeps.ofNew (one_new W o).1 _).trans ⟨hg.os, hg.tape, hg.output, hg.size, fun k hk hn => hg.block k hk (fun e => hn e.symm)⟩
theorem min_if' (a b : Int) : (if b < a then b else a) = min a b := by split <;> omega
theorem max_if' (a b : Int) : (if a < b then b else a) = max a b := by split <;> omega
set_option maxRecDepth 100000 in
set_option maxHeartbeats 4000000 in
theorem gaps1_in (b : Nat) (n : Nat) (hn : 1 ≤ n) (l Bs Bl B0 m : Nat) (X : Nat → Prop) (v : Value) (L : List Sg) (hm : m = L.length) (hL : m ≤ 1000000) (fr tz : Int) (J Jx : List Sg → World → Prop) (W : World)
    (hXs : ¬ X Bs) (hbs : Bs < b) (hXW : ∀ k, X k → k < W.heap.size) (hXg : ∀ g, v.ownBlock = some g → ¬ X g) (hB0 : B0 ≤ W.heap.size)
    (hJ : OwnFrom W.heap.size J) (hJg : ∀ pre A B, Keeps (fun k => v.ownBlock = some k) A B → J pre A → J pre B)
    (hY : ∀ pre y W1, J pre W1 → pre.length < m + 1 → YieldAt Fence.wide (n - 1) Try.prog l #[sgv y] W1 fun e W' =>
      (e = .returned (.bool true) ∧ J (pre ++ [y]) W' ∧ KpT b X W1 W') ∨ (e = .returned (.bool false) ∧ Jx (pre ++ [y]) W' ∧ KpT b X W1 W'))
    (hBs : W.heap[Bs]? = some (.cells #[.int .i64 fr, .int .i64 tz] 23 (0, 0))) (hBl : W.heap[Bl]? = some (.cells #[v] 51 (0, 0)))
    (hrow : W.ownsRow B0 53 2 v m (L.flatMap sgc)) (h0 : J [] W) :
    CallsIn Fence.wide n Try.prog 52 #[.func (.yield l) #[] #[], .pointer (some ⟨Bs, 0, none⟩), .pointer (some ⟨Bl, 0, none⟩)] W fun e W' => (∃ v, e = .returned v) ∧
      ((∃ ys, ys = sweep tz (L ++ [⟨tz, tz⟩]) fr ∧ J ys W') ∨ (∃ pre, pre <+: sweep tz (L ++ [⟨tz, tz⟩]) fr ∧ Jx pre W')) := by
  obtain ⟨i0, hi0, hz0, hz1, hz2⟩ := info_parts Try.infoLine
  have cS0 := (block_cell' hBs 0).1
  have cS1 := (block_cell' hBs 1).1
  have cL := (block_cell' hBl 0).1
  obtain ⟨va, vc, rfl⟩ := own_val hrow
  have HM := Lib.hid hm
  have HBs := Lib.hid hBs
  have HY := Lib.hid @hY
  have HJ := Lib.hid hJ
  have HJg := Lib.hid hJg
  have HJ0 := Lib.hid h0
  clear hm hBs hBl hY hJ hJg h0
  refine callsIn_of_wp Try.func52 rfl trivial ?_ rfl
  simp only [Try.ntmps52, List.size_toArray, List.length_cons, List.length_nil, Nat.reduceAdd, Nat.reduceSub, Array.replicate_succ, Array.replicate_zero, List.push_toArray, List.append_toArray, List.nil_append, List.cons_append]
  refine wpIn_wide.2 ?_
  go_wp2_with (at_builtin; refine wpList_append_kept _ rfl (.tmp 9) (.tmp 15) 51 rfl B0 53 i0 _ 2 16 Try.underlying51 hi0 hz0 hz1 hz2 rfl (by decide) _ m _ rfl (hrow.alloc _) ⟨W.heap.size, 0, none⟩ 1 1 [.int .i64 tz, .int .i64 tz] rfl rfl (World.news_of_block (cs := #[.int .i64 tz, .int .i64 tz]) (t := 53) (fr := (0, 0)) (heap_alloc_new W _)) (by simp [Value.oneCell']) (by omega) (by unfold maxLen; omega) (by omega) (by simp; omega) ?_; intro v' w1 hown' hgrow hkp; obtain ⟨g', cap', rfl⟩ := own_shape2 hown' (by omega); skip)
  have hkeep := keeps_grown (v := .slice va m vc) hgrow
  have HJ1 := Lib.hid (HJg.out [] W w1 hkeep HJ0.out)
  have HBs1 := Lib.hid (hkeep.obj HBs.out (own_ne' HBs.out (by decide) hrow))
  have HR1 := Lib.hid (show w1.ownsRow B0 53 2 (.slice (some ⟨g', 0, none⟩) (m + 1) cap') (m + 1) ((L ++ [(⟨tz, tz⟩ : Sg)]).flatMap sgc) from by
    rw [List.flatMap_append]
    simpa [sgc] using hown')
  have HXg := Lib.hid (show ¬ X g' from by
    rcases hkp with ⟨g, cap, h1, h2⟩ | ⟨-, h2⟩
    · simp only [Value.slice.injEq, Option.some.injEq, Addr.mk.injEq] at h2
      obtain ⟨⟨rfl, -⟩, -⟩ := h2
      have h1' : Value.slice va m vc = .slice (some ⟨g', 0, none⟩) m cap := h1
      exact hXg g' (by rw [h1']; rfl)
    · intro hx
      have h3 := h2 g' rfl
      have h4 := hXW g' hx
      simp at h3
      omega)
  have HSz := Lib.hid (show W.heap.size ≤ w1.heap.size from hkeep.size)
  have HML := Lib.hid (show (L ++ [(⟨tz, tz⟩ : Sg)]).length = m + 1 from by rw [List.length_append, ← HM.out]; rfl)
  clear hkeep hown' hgrow hkp cS0 cS1 cL hrow HJ0 HBs
  generalize hMe : L ++ [(⟨tz, tz⟩ : Sg)] = M at HR1 HML ⊢
  have HMe := Lib.hid hMe
  clear hMe
  refine (wpIn_wide (n := n)).1 ?_
  gi_loopw [4, 18] (fun a i wr => ∃ (k : Nat) (p : Int) (pre : List Sg), k ≤ m + 1 ∧ i = .int .i64 k ∧ a = .int .i64 p ∧ pre.length ≤ k ∧ Hid (pre ++ sweep tz (M.drop k) p = sweep tz M fr) ∧ Hid (J pre wr) ∧ Hid (wr.ownsRow B0 53 2 (.slice (some ⟨g', 0, none⟩) (m + 1) cap') (m + 1) (M.flatMap sgc)) ∧ Hid (wr.heap[Bs]? = some (.cells #[.int .i64 fr, .int .i64 tz] 23 (0, 0))) ∧ Hid (W.heap.size ≤ wr.heap.size)) (fun _ i _ => m + 1 - (intOf i).toNat)
  case atStart => exact ⟨0, fr, [], by omega, rfl, rfl, by simp, Lib.hid rfl, HJ1, HR1, HBs1, HSz⟩
  case round =>
    clear HJ1 HR1 HBs1 HSz
    obtain ⟨k, p, pre, hk, rfl, rfl, hpl, HS, HJk, HR, HBk, HSz⟩ := hrel
    by_cases hlt : k < m + 1
    · have hlt' : (k : Int) < (m : Int) + 1 := by omega
      have hkM : k < M.length := by rw [HML.out]; exact hlt
      have hd : M.drop k = M[k] :: M.drop (k + 1) := List.drop_eq_getElem_cons hkM
      obtain ⟨c0, -⟩ := own_cellC sgc_len HR.out k hkM 0 (by omega)
      obtain ⟨c1, -⟩ := own_cellC sgc_len HR.out k hkM 1 (by omega)
      obtain ⟨⟨ofr, oto⟩, hs⟩ : ∃ s, s = M[k] := ⟨_, rfl⟩
      rw [← hs] at c0 c1 hd
      replace c0 : wr.cell? ⟨g', k * 2, none⟩ = some (.int .i64 ofr) := c0
      replace c1 : wr.cell? ⟨g', k * 2 + 1, none⟩ = some (.int .i64 oto) := c1
      have hsw := HS.out
      rw [hd, sweep_cons] at hsw
      simp only at hsw
      have HSw := Lib.hid hsw
      have hmn := min_if' ofr tz
      have hmx := max_if' p oto
      obtain ⟨mn, hmne⟩ : ∃ mn, mn = min ofr tz := ⟨_, rfl⟩
      obtain ⟨mx, hmxe⟩ : ∃ mx, mx = max p oto := ⟨_, rfl⟩
      rw [← hmne] at hmn
      rw [← hmxe] at hmx
      have HMn := Lib.hid hmne
      have HMx := Lib.hid hmxe
      have hmn2 := hmne.symm
      have hmx2 := hmxe.symm
      have hmn3 : min tz ofr = mn := by omega
      have hmx3 : max oto p = mx := by omega
      clear hd hs hsw hmne hmxe HS
      have hal := (one_new wr (.cells #[.int .i64 ofr, .int .i64 oto] 53 (0, 0)))
      have hJ2 : J pre (wr.alloc (.cells #[.int .i64 ofr, .int .i64 oto] 53 (0, 0))) := HJ.out _ _ _ none HJk.out (World.grownBy_alloc _ _ _) (fun r e => by cases e)
      have hR2 := HR.out.alloc (.cells #[.int .i64 ofr, .int .i64 oto] 53 (0, 0))
      have hB2 := (hal.1.block _ (lt_of_block HBk.out)).trans HBk.out
      obtain ⟨s0, s1⟩ := two_box HBk.out
      obtain ⟨x0, x1⟩ := two_box hal.2
      obtain ⟨u0, u1⟩ := two_box hB2
      have hXb : ¬ X wr.heap.size := fun hx => by have := hXW _ hx; have := HSz.out; omega
      by_cases hgt : p < ofr
      · have hd1 : decide (p < ofr) = true := by simpa using hgt
        obtain ⟨fn, tmps, assign, body, hy, hR⟩ := HY.out pre ⟨p, mn⟩ _ hJ2 (by omega)
        have HA := Lib.hid hal.2
        have HR2 := Lib.hid hR2
        have HB2 := Lib.hid hB2
        have HXb := Lib.hid hXb
        have HXW2 := Lib.hid HSz.out
        clear hal hR2 hB2 hXb hJ2 HJk HR HBk
        gi_wp2
        refine hR.mono ?_
        rintro e W3 (⟨rfl, hJ3, hk3⟩ | ⟨rfl, hJx3, -⟩)
        · have HJ3 := Lib.hid hJ3
          have HR3 := Lib.hid (hk3.row HR2.out (fun g e => by simp [Value.ownBlock] at e; subst e; exact HXg.out))
          have hx3 := hk3.2 _ _ HXb.out (not_isT (.inl (by decide))) HA.out
          have hb3 := hk3.2 _ _ hXs (not_isT (.inr hbs)) HB2.out
          have HB3 := Lib.hid hb3
          have HS3 := Lib.hid (show W.heap.size ≤ W3.heap.size from Nat.le_trans HSz.out (by have := hk3.1; simp at this; omega))
          clear s0 s1 x0 x1 u0 u1 c0 c1
          obtain ⟨s0, s1⟩ := two_box hb3
          obtain ⟨x0, x1⟩ := two_box hx3
          clear hJ3 hk3 hx3 hb3 hR hy
          by_cases hge : tz ≤ mx
          · have HF := Lib.hid (show (pre ++ [⟨p, mn⟩]) = sweep tz M fr from by
              have h := HSw.out
              rw [if_pos hgt, if_pos (by have := HMx.out; omega)] at h
              rw [← h]
              simp [HMn.out])
            have HJf := Lib.hid (show J (sweep tz M fr) W3 from by rw [← HF.out]; exact HJ3.out)
            gi_wp2
            refine bodyPost_ret (results_none rfl _ _ _) rfl ?_
            first | exact ⟨⟨_, rfl⟩, .inl (by have h := HJf.out; rw [← HMe.out] at h; exact h)⟩ | exact ⟨⟨_, rfl⟩, .inl ⟨_, rfl, by have h := HJf.out; rw [← HMe.out] at h; exact h⟩⟩
          · have HF := Lib.hid (show (pre ++ [⟨p, mn⟩]) ++ sweep tz (M.drop (k + 1)) mx = sweep tz M fr from by
              have h := HSw.out
              rw [if_pos hgt, if_neg (by have := HMx.out; omega)] at h
              rw [← h, ← HMx.out]
              simp [HMn.out])
            gi_wp2
            go_roundw
            case rel => exact ⟨k + 1, mx, (pre ++ [⟨p, mn⟩]), by omega, by go_num, rfl, by first | omega | (simp; omega), HF, HJ3, HR3, HB3, HS3⟩
            case measure => simp [intOf]; omega
        · have HP := Lib.hid (show pre ++ [⟨p, mn⟩] <+: sweep tz M fr from by
            have h := HSw.out
            rw [if_pos hgt] at h
            rw [← h, ← HMn.out, ← List.append_assoc]
            exact List.prefix_append _ _)
          gi_wp2
          refine bodyPost_ret (results_none rfl _ _ _) rfl ?_
          exact ⟨⟨_, rfl⟩, .inr ⟨_, by have h := HP.out; rw [← HMe.out] at h; exact h, hJx3⟩⟩
      · have hd1 : decide (p < ofr) = false := by simpa using hgt
        have HJ3 := Lib.hid hJ2
        have HR3 := Lib.hid hR2
        have HB3 := Lib.hid hB2
        have HS3 := Lib.hid (show W.heap.size ≤ (wr.alloc (.cells #[.int .i64 ofr, .int .i64 oto] 53 (0, 0))).heap.size from Nat.le_trans HSz.out (by simp))
        clear hal hR2 hB2 hXb hJ2 HJk HR HBk
        by_cases hge : tz ≤ mx
        · have HF := Lib.hid (show pre = sweep tz M fr from by
            have h := HSw.out
            rw [if_neg (by omega), if_pos (by have := HMx.out; omega)] at h
            rw [← h]
            simp [HMn.out])
          have HJf := Lib.hid (show J (sweep tz M fr) (wr.alloc (.cells #[.int .i64 ofr, .int .i64 oto] 53 (0, 0))) from by rw [← HF.out]; exact HJ3.out)
          gi_wp2
          refine ⟨fun _ h => (by cases h), ?_⟩
          gi_wp2
          refine bodyPost_ret (results_none rfl _ _ _) rfl ?_
          first | exact ⟨⟨_, rfl⟩, .inl (by have h := HJf.out; rw [← HMe.out] at h; exact h)⟩ | exact ⟨⟨_, rfl⟩, .inl ⟨_, rfl, by have h := HJf.out; rw [← HMe.out] at h; exact h⟩⟩
        · have HF := Lib.hid (show pre ++ sweep tz (M.drop (k + 1)) mx = sweep tz M fr from by
            have h := HSw.out
            rw [if_neg (by omega), if_neg (by have := HMx.out; omega)] at h
            rw [← h, ← HMx.out]
            simp [HMn.out])
          gi_wp2
          refine ⟨fun _ h => (by cases h), ?_⟩
          gi_wp2
          go_roundw
          case rel => exact ⟨k + 1, mx, pre, by omega, by go_num, rfl, by first | omega | (simp; omega), HF, HJ3, HR3, HB3, HS3⟩
          case measure => simp [intOf]; omega
    · have hlt' : ¬ (k : Int) < (m : Int) + 1 := by omega
      have HF := Lib.hid (show pre = sweep tz M fr from by
        have h := HS.out
        rw [List.drop_eq_nil_of_le (by rw [HML.out]; omega)] at h
        simpa [sweep] using h)
      gi_wp2
      go_end0
      have h := HJk.out
      rw [HF.out, ← HMe.out] at h
      first | exact ⟨⟨_, rfl⟩, .inl h⟩ | exact ⟨⟨_, rfl⟩, .inl ⟨_, rfl, h⟩⟩
end Go.Proofs.Ytndminmefacmnaa
