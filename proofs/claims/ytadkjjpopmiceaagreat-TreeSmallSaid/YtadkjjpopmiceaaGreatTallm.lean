import Derived.Test.YtadkjjpopmiceaaGreatStrong
import Derived.Test.YtadkjjpopmiceaaGreatTasm
namespace Go.Proofs.YtadkjjpopmiceaaGreat
open Go.RowKit Go.Shelf
attribute [local go_sem] Oper.semAt_some

theorem cut_in {T G : Prop} (h : T → G) (t : T) : G := h t
theorem wpAnyIn_listed {F : Fence} {n : Nat} {P : Program} {md : Region.Mode} {ops : Array Oper} {Q : Exit → Act → World → Prop} {fuel : Nat} {listed L : Array Bool} {a : Act} {w : World} (h : listed = L)
    (H : wpAnyIn F n P md ops Q fuel L a w) : wpAnyIn F n P md ops Q fuel listed a w := by rw [h]; exact H
/-- a row of twigs that is newer than b. -/
def isT (b : Nat) (k : Nat) (o : Obj) : Prop := b ≤ k ∧ ∃ cs fr, o = .cells cs 45 fr
theorem not_isT {b k : Nat} {cs : Array Value} {t : TypeId} {fr : Nat × Nat} (h : t ≠ 45 ∨ k < b) : ¬ isT b k (.cells cs t fr) := by
  rintro ⟨h1, cs', fr', h2⟩
  simp only [Obj.cells.injEq] at h2
  rcases h with h | h
  · exact h h2.2.1
  · omega
theorem not_isT' {b k : Nat} {o : Obj} (h : o.isCells = false) : ¬ isT b k o := by
  rintro ⟨h1, cs', fr', rfl⟩
  simp [Obj.isCells] at h
/-- what lies stays, but where X, and but for new rows of twigs. -/
def KpT (b : Nat) (X : Nat → Prop) (A B : World) : Prop := A.heap.size ≤ B.heap.size ∧ ∀ k o, ¬ X k → ¬ isT b k o → A.heap[k]? = some o → B.heap[k]? = some o
theorem KpT.refl (b : Nat) (X : Nat → Prop) (A : World) : KpT b X A A := ⟨Nat.le_refl _, fun _ _ _ _ h => h⟩
theorem KpT.trans {b : Nat} {X : Nat → Prop} {A B C : World} (h : KpT b X A B) (k : KpT b X B C) : KpT b X A C := ⟨Nat.le_trans h.1 k.1, fun i o hi ht ho => k.2 i o hi ht (h.2 i o hi ht ho)⟩
theorem KpT.mono {b : Nat} {X Y : Nat → Prop} {A B : World} (h : KpT b X A B) (hy : ∀ k, X k → Y k) : KpT b Y A B := ⟨h.1, fun i o hi ht ho => h.2 i o (fun hx => hi (hy i hx)) ht ho⟩
theorem KpT.putObj {b : Nat} {X : Nat → Prop} (W : World) (l : Nat) (o' : Obj) (hl : X l) {o : Obj} (h : W.heap[l]? = some o) : KpT b X W (W.putObj l o') :=
  ⟨by have := (grownBy_putObj' W l o').size; exact this, fun k o hk _ ho => (World.putObj_heap_other (show k ≠ l from fun e => hk (by rw [e]; exact hl))).trans ho⟩
theorem KpT.ofBelow {b : Nat} {X : Nat → Prop} {A B : World} (h : Below A.heap.size A B) : KpT b X A B := ⟨h.size, fun k o _ _ ho => (h.block k (Array.getElem?_eq_some_iff.1 ho).1).trans ho⟩

set_option maxRecDepth 100000 in
set_option maxHeartbeats 2000000 in
theorem num1_in (b : Nat) (n : Nat) (hn : 1 ≤ n) (l Bp x N : Nat) (X : Nat → Prop) (hX1 : ¬ X Bp) (hX2 : ¬ X x) (ao : Option Addr) (cap : Nat) (C : Array Value) (t tb : TypeId) (htx : t ≠ 45) (htb : tb ≠ 45) (hN : N ≤ 9223372036854775807) (J Jx : List (Fin N) → World → Prop)
    (hY : ∀ pre y W, J pre W → pre.length < N → YieldAt Fence.wide (n - 1) Tryz.prog l #[.int .i64 ((y : Fin N).val : Int)] W fun e W' =>
      (e = .returned (.bool true) ∧ J (pre ++ [y]) W' ∧ KpT b X W W') ∨ (e = .returned (.bool false) ∧ Jx (pre ++ [y]) W' ∧ KpT b X W W'))
    (W : World) (hBp : W.heap[Bp]? = some (.cells #[.pointer (some ⟨x, 0, none⟩)] tb (0, 0))) (hx : W.heap[x]? = some (.cells C t (0, 0))) (hC : C[0]? = some (.slice ao N cap)) (h0 : J [] W) :
    CallsIn Fence.wide n Tryz.prog 131 #[.func (.yield l) #[] #[], .pointer (some ⟨Bp, 0, none⟩)] W fun e W' => (∃ v, e = .returned v) ∧
      ((∃ ys, ys.map Fin.val = List.range N ∧ J ys W') ∨ (∃ pre, (∃ k, k ≤ N ∧ pre.map Fin.val = List.range k) ∧ Jx pre W')) := by
  refine callsIn_of_wp Tryz.func131 rfl trivial ?_ rfl
  simp only [Tryz.ntmps131, List.size_toArray, List.length_cons, List.length_nil, Nat.reduceAdd, Nat.reduceSub, Array.replicate_succ, Array.replicate_zero, List.push_toArray, List.append_toArray, List.nil_append, List.cons_append]
  gi_wp2
  gi_loopw [3] (fun i wr => ∃ (k : Nat) (pre : List (Fin N)), k ≤ N ∧ i = .int .i64 k ∧ pre.map Fin.val = List.range k ∧ J pre wr ∧ KpT b X W wr) (fun i _ => N - (intOf i).toNat)
  case atStart => exact ⟨0, [], by omega, rfl, rfl, h0, KpT.refl _ _ _⟩
  case round =>
    obtain ⟨k, pre, hk, rfl, hpre, hJ, hK⟩ := hrel
    have hc1 := (block_cell' (hK.2 _ _ hX1 (not_isT (.inl htb)) hBp) 0).1
    have hc2 := (block_cell' (hK.2 _ _ hX2 (not_isT (.inl htx)) hx) 0).1
    rw [hC] at hc2
    have hc1' : wr.cell? ⟨Bp, 0, none⟩ = some (.pointer (some ⟨x, 0, none⟩)) := hc1
    clear hc1
    by_cases hlt : k < N
    · have hltI : (k : Int) < N := by omega
      have hlen : pre.length < N := by
        have := congrArg List.length hpre
        simp at this
        omega
      obtain ⟨fn, tmps, assign, body, hy, hR⟩ := hY pre ⟨k, hlt⟩ wr hJ hlen
      dsimp only at hy
      gi_wp2
      refine hR.mono ?_
      rintro e W3 (⟨rfl, hJ3, hk3⟩ | ⟨rfl, hJx3, _⟩)
      · gi_wp2
        go_roundw
        case rel => exact ⟨k + 1, _, by omega, by go_num, by rw [List.map_append, hpre, List.range_succ]; rfl, hJ3, hK.trans hk3⟩
        case measure => simp [intOf]; omega
      · gi_wp2
        refine bodyPost_ret (results_none rfl _ _ _) rfl ?_
        exact ⟨⟨_, rfl⟩, .inr ⟨_, ⟨k + 1, by omega, by rw [List.map_append, hpre, List.range_succ]; rfl⟩, hJx3⟩⟩
    · obtain rfl : k = N := by omega
      have hltI : ¬ (k : Int) < k := by omega
      gi_wp2
      go_end0
      exact ⟨⟨_, rfl⟩, .inl ⟨pre, hpre, hJ⟩⟩

set_option maxHeartbeats 1000000 in
theorem num_in (n : Nat) (p : Option Addr) (w : World) :
    CallsIn Fence.wide n Tryz.prog 127 #[.pointer p] w fun e w' => e = .returned (.func (.func 131) #[] #[.pointer (some ⟨w.heap.size, 0, none⟩)]) ∧ w' = w.alloc (.cells #[.pointer p] 188) := by
  refine callsIn_of_wp Tryz.func127 rfl trivial ?_ rfl
  simp only [Tryz.ntmps127, List.size_toArray, List.length_cons, List.length_nil, Nat.reduceAdd, Nat.reduceSub, Array.replicate_succ, Array.replicate_zero, List.push_toArray, List.append_toArray, List.nil_append, List.cons_append]
  gi_wp2
  go_ret
  exact ⟨rfl, rfl⟩
set_option maxHeartbeats 1000000 in
theorem all_in (n : Nat) (p : Option Addr) (w : World) :
    CallsIn Fence.wide n Tryz.prog 106 #[.pointer p] w fun e w' => e = .returned (.func (.func 126) #[] #[.pointer (some ⟨w.heap.size, 0, none⟩)]) ∧ w' = w.alloc (.cells #[.pointer p] 105) := by
  refine callsIn_of_wp Tryz.func106 rfl trivial ?_ rfl
  simp only [Tryz.ntmps106, List.size_toArray, List.length_cons, List.length_nil, Nat.reduceAdd, Nat.reduceSub, Array.replicate_succ, Array.replicate_zero, List.push_toArray, List.append_toArray, List.nil_append, List.cons_append]
  gi_wp2
  go_ret
  exact ⟨rfl, rfl⟩

/-- cells stay, but where X. -/
def KcT (b : Nat) (X : Nat → Prop) (A B : World) : Prop := A.heap.size ≤ B.heap.size ∧ ∀ k c t f, ¬ X k → (t ≠ 45 ∨ k < b) → A.heap[k]? = some (.cells c t f) → B.heap[k]? = some (.cells c t f)
theorem KcT.refl (b : Nat) (X : Nat → Prop) (A : World) : KcT b X A A := ⟨Nat.le_refl _, fun _ _ _ _ _ _ h => h⟩
theorem KcT.then {b : Nat} {X : Nat → Prop} {A B C : World} (h : KcT b X A B) (k : KpT b X B C) : KcT b X A C := ⟨Nat.le_trans h.1 k.1, fun i c t f hi ht ho => k.2 i _ hi (not_isT ht) (h.2 i c t f hi ht ho)⟩
theorem ownFrom_kcT {β : Type} {w : World} {b : Nat} {X : Nat → Prop} (B : Nat) : OwnFrom B (fun (_ : β) W => KcT b X w W) := fun _ A C row hs hg hr =>
  ⟨Nat.le_trans hs.1 hg.size, fun k c t f hk ht ho => by
    have hA := hs.2 k c t f hk ht ho
    exact (hg.block k (lt_of_block hA) (fun e => by obtain ⟨_, o, ho', hc⟩ := hr k e.symm; rw [hA] at ho'; cases ho'; cases hc)).trans hA⟩
theorem TAr.keptC {B : Nat} {w w' : World} {x b : Nat} {v : Value} {xs : List Tw} {most peak : Nat} {X : Nat → Prop} (h : TAr B w x v xs most peak) (hk : KcT b X w w') (hx : ¬ X x) (hg : ∀ k, v.ownBlock = some k → ¬ X k ∧ k < b) : TAr B w' x v xs most peak := by
  refine ⟨hk.2 _ _ _ _ hx (.inl (by decide)) h.1, ⟨h.2.1.1, ?_⟩, h.2.2⟩
  rcases h.2.1.2 with h0 | ⟨g, cap, cur, rfl, hb, hgg, rest⟩
  · exact .inl h0
  · exact .inr ⟨g, cap, cur, rfl, hb, hk.2 _ _ _ _ (hg g rfl).1 (.inr (hg g rfl).2) hgg, rest⟩

set_option maxRecDepth 100000 in
set_option maxHeartbeats 4000000 in
theorem all1_in (b : Nat) (n : Nat) (hn : 5 ≤ n) (l Ba x : Nat) (X : Nat → Prop) (B : Nat) (v : Value) (zs : List Tw) (most peak : Nat) (J Jx : List (Fin zs.length) → World → Prop) (W : World) (hX : ∀ k, X k → k < W.heap.size) (hXa : ¬ X Ba) (hXx : ¬ X x) (hXg : ∀ k, v.ownBlock = some k → ¬ X k ∧ k < b)
    (hJ : OwnFrom W.heap.size J) (hJx : OwnFrom W.heap.size Jx)
    (hY : ∀ pre y W1, J pre W1 → pre.length < zs.length → YieldAt Fence.wide (n - 1) Tryz.prog l #[.int .i64 ((y : Fin zs.length).val : Int), twv zs[y]] W1 fun e W' =>
      (e = .returned (.bool true) ∧ J (pre ++ [y]) W' ∧ KpT b X W1 W') ∨ (e = .returned (.bool false) ∧ Jx (pre ++ [y]) W' ∧ KpT b X W1 W'))
    (hBa : W.heap[Ba]? = some (.cells #[.pointer (some ⟨x, 0, none⟩)] 105 (0, 0))) (hA : TAr B W x v zs most peak) (h0 : J [] W) :
    CallsIn Fence.wide n Tryz.prog 126 #[.func (.yield l) #[] #[], .pointer (some ⟨Ba, 0, none⟩)] W fun e W' => (∃ v, e = .returned v) ∧
      ((∃ ys, ys.map Fin.val = List.range zs.length ∧ J ys W') ∨ (∃ pre, (∃ k, k ≤ zs.length ∧ pre.map Fin.val = List.range k) ∧ Jx pre W')) := by
  have h1n : 1 ≤ n := by omega
  have h2n : 1 ≤ n - 1 := by omega
  have h3n : 1 ≤ n - 1 - 1 := by omega
  have hBal := lt_of_block hBa
  have hxl := lt_of_block hA.1
  have hA1 := hA.later ((Below.refl W.heap.size W).alloc (Nat.le_refl _) (.cells #[.func (.yield l) #[] #[]] 184))
  have hba1 := (Boxed.cell (t := 105) (v := .pointer (some ⟨x, 0, none⟩)) ((Below.heap_alloc W (.cells #[.func (.yield l) #[] #[]] 184) Ba hBal).trans hBa))
  have hT := arThere _ hA1
  have HT := Lib.hid hT
  clear hT
  refine callsIn_of_wp_marks Tryz.func126 rfl trivial ?_ rfl
  simp only [Tryz.ntmps126, List.size_toArray, List.length_cons, List.length_nil, Nat.reduceAdd, Nat.reduceSub, Array.replicate_succ, Array.replicate_zero, List.push_toArray, List.append_toArray, List.nil_append, List.cons_append]
  gi_wp2_with (refine ⟨trivial, ?_⟩; first | (gi_at_call 107; refine (callsIn_wide.2 HT.out).mono ?_; rintro e w' ⟨rfl, rfl⟩) | (gi_at_call 127; refine (num_in _ _ _).mono ?_; rintro e w' ⟨rfl, rfl⟩))
  obtain ⟨W2, hW2⟩ : ∃ W2, W2 = (W.alloc (.cells #[.func (.yield l) #[] #[]] 184)).alloc (.cells #[.pointer (some ⟨x, 0, none⟩)] 188) := ⟨_, rfl⟩
  have hs2 : W2.heap.size = W.heap.size + 2 := by rw [hW2]; simp
  have hb2 : Below W.heap.size W W2 := by rw [hW2]; exact ((Below.refl _ W).alloc (Nat.le_refl _) _).alloc (by simp) _
  have hBy : W2.heap[W.heap.size]? = some (.cells #[.func (.yield l) #[] #[]] 184 (0, 0)) := by rw [hW2]; exact (Below.heap_alloc _ _ _ (by simp)).trans (World.alloc_heap_new W _)
  have hBp : W2.heap[W.heap.size + 1]? = some (.cells #[.pointer (some ⟨x, 0, none⟩)] 188 (0, 0)) := by
    rw [hW2]; have := World.alloc_heap_new (W.alloc (.cells #[.func (.yield l) #[] #[]] 184)) (.cells #[.pointer (some ⟨x, 0, none⟩)] 188); rwa [World.size_alloc] at this
  have hBa2 := (hb2.block _ hBal).trans hBa
  have hA2 := hA.later hb2
  have hJ2 : J [] W2 := by rw [hW2]; exact hJ.alloc _ (hJ.alloc _ h0)
  rw [← hW2]
  clear hW2 HT hba1 hA1
  obtain ⟨ao, cap, rfl, hcap, hcm, hnil, hao⟩ := hA2.shape
  have hoX : ∀ {k : Nat}, W.heap.size ≤ k → ¬ X k := fun hk h => by have := hX _ h; omega
  refine range_strong (α := Fin zs.length) (by omega) (gf := 131) (lb := #[.pointer (some ⟨W.heap.size + 1, 0, none⟩)]) rfl (enters_of Tryz.func131 (by kernel_rfl) rfl)
    (encs := fun y => #[.int .i64 ((y : Fin zs.length).val : Int)]) (Kp := KpT b fun k => X k ∨ k = W2.heap.size + 1) (S := fun ys => ys.map Fin.val = List.range zs.length) (Sp := fun pre => ∃ k, k ≤ zs.length ∧ pre.map Fin.val = List.range k) (N := zs.length)
    (fun l2 J2 Jx2 W3 hb _ _ _ hY2 h02 => num1_in b (n - 1) (by omega) l2 (W.heap.size + 1) x zs.length _ (by rintro (h | h); exact hoX (by omega) h; omega) (by rintro (h | h); exact hXx h; omega) ao cap _ _ _ (by decide) (by decide) (by omega) J2 Jx2 hY2 W3 ((hb.block _ (by omega)).trans hBp) ((hb.block _ (by omega)).trans hA2.1) rfl h02)
    KpT.trans (fun W o o' ho hc => KpT.putObj W _ o' (.inr rfl) ho) (fun _ => rfl)
    (fun pre W' => J pre W' ∧ KcT b X W2 W') (fun c pre W' => c = .ret ∧ Jx pre W')
    (OwnFrom.and (fun s A C row hs hg hr => hJ s A C row hs hg (fun r e => ⟨by have := (hr r e).1; omega, (hr r e).2⟩)) (ownFrom_kcT _))
    (fun c => fun s A C row hs hg hr => ⟨hs.1, hJx s A C row hs.2 hg (fun r e => ⟨by have := (hr r e).1; omega, (hr r e).2⟩)⟩)
    ⟨hJ2, KcT.refl _ _ _⟩
    (fun y => { tmps := #[.func (.yield l) #[] #[], .pointer (some ⟨Ba, 0, none⟩), .pointer (some ⟨W.heap.size, 0, none⟩), .int .i64 (y.val : Int), .pointer (some ⟨x, 0, none⟩), .bool true, .bool false, .pointer (some ⟨x, 0, none⟩), .pointer (some ⟨x, 0, none⟩), .pointer (some ⟨x, 0, none⟩), .func (.func 131) #[] #[.pointer (some ⟨W.heap.size + 1, 0, none⟩)], .int .i64 (y.val : Int), undef, undef, undef, undef, undef, undef, undef, undef, undef, undef, undef, undef], defers := [] }) ?assign ?body ?done ?stop
  case assign =>
    intro l x W K hK
    gi_wp2
    exact hK
  case body =>
    rintro l2 pre y W' hl2 ⟨hj, hk⟩ hlen
    have hy := y.isLt
    have hA3 := hA2.keptC hk hXx hXg
    have hcx := hA3.cells.1
    have hcy : W'.cell? ⟨W.heap.size, 0, none⟩ = some (.func (.yield l) #[] #[]) := Boxed.cell (t := 184) (hk.2 _ _ _ _ (hoX (Nat.le_refl _)) (.inl (by decide)) hBy)
    have hca : W'.cell? ⟨Ba, 0, none⟩ = some (.pointer (some ⟨x, 0, none⟩)) := Boxed.cell (t := 105) (hk.2 _ _ _ _ hXa (.inl (by decide)) hBa2)
    have hyI : (y.val : Int) < zs.length := by omega
    cases ao with
    | none =>
      have h0l : zs.length = 0 := by have h := congrArg List.length (hnil rfl).2; simpa using h
      omega
    | some ad =>
      obtain ⟨g, rfl, hgo⟩ := hao _ rfl
      obtain ⟨tt, htt⟩ : ∃ tt, tt = zs[y.val] := ⟨_, rfl⟩
      have hrw := fun j hj => own_cellC twc_len (by have := hA3.2.1; exact this) y.val hy j hj
      have z0 := (hrw 0 (by omega)).1
      have z1 := (hrw 1 (by omega)).1
      have z2 := (hrw 2 (by omega)).1
      have z3 := (hrw 3 (by omega)).1
      have z4 := (hrw 4 (by omega)).1
      rw [← htt] at z0 z1 z2 z3 z4
      simp only [twc, Nat.add_zero, List.getElem?_cons_zero, List.getElem?_cons_succ] at z0 z1 z2 z3 z4
      clear hrw
      have hjd : J pre W'.drew := hJ pre W' W'.drew none hj ⟨rfl, rfl, rfl, Nat.le_refl _, fun _ _ _ => rfl⟩ (fun r e => by cases e)
      obtain ⟨fn, tmps, assign, body, hyy, hR⟩ := hY pre y W'.drew hjd hlen
      simp only [Fin.getElem_fin, twv, ← htt] at hyy
      have hR2 : RoundIn (Fence.wide.inRound l2) (n - 1 - 1 - 1) Tryz.prog l fn tmps assign body W'.drew _ := round_any hR
      have hR3 := hR2.mono (R' := fun e W3 => ∃ bv, e = .returned (.bool bv) ∧ ((bv = true ∧ J (pre ++ [y]) W3 ∧ KpT b X W'.drew W3) ∨ (bv = false ∧ Jx (pre ++ [y]) W3 ∧ KpT b X W'.drew W3))) (fun e W3 h => h.elim (fun h => ⟨true, h.1, .inl ⟨rfl, h.2⟩⟩) (fun h => ⟨false, h.1, .inr ⟨rfl, h.2⟩⟩))
      have hmix : Tryz.prog.follows .mixedOrders = true := by kernel_rfl
      clear htt
      clear hA3 hJ hJx hY hA hA2 hBy hBp hBa hBa2 hJ2 h0
      have HR3 := Lib.hid hR3
      clear hR hR2 hR3
      gi_wp2
      refine wpIn_region_any hmix ?_
      change wpAnyIn _ _ _ _ _ _ _ _ _ (World.drew _)
      apply cut_in
      · intro key0
        apply cut_in
        · intro key1
          apply cut_in
          · intro key2
            apply cut_in
            · intro key3
              apply cut_in
              · intro key4
                apply cut_in
                · intro key5
                  apply cut_in
                  · intro key6
                    apply cut_in
                    · intro key7
                      apply cut_in
                      · intro key8
                        apply cut_in
                        · intro key9
                          apply cut_in
                          · intro key10
                            apply cut_in
                            · intro key11
                              apply cut_in
                              · intro key12
                                apply cut_in
                                · intro key13
                                  apply cut_in
                                  · intro key14
                                    apply cut_in
                                    · intro key15
                                      apply cut_in
                                      · intro key16
                                        apply cut_in
                                        · intro key17
                                          apply cut_in
                                          · intro key18
                                            apply cut_in
                                            · intro key19
                                              apply cut_in
                                              · intro key20
                                                apply cut_in
                                                · intro key21
                                                  apply cut_in
                                                  · intro key22
                                                    apply cut_in
                                                    · intro key23
                                                      apply cut_in
                                                      · intro key24
                                                        apply cut_in
                                                        · intro key25
                                                          apply cut_in
                                                          · intro key26
                                                            apply cut_in
                                                            · intro key27
                                                              apply cut_in
                                                              · intro key28
                                                                apply cut_in
                                                                · intro key29
                                                                  apply cut_in
                                                                  · intro key30
                                                                    apply cut_in
                                                                    · intro key31
                                                                      apply cut_in
                                                                      · intro key32
                                                                        apply cut_in
                                                                        · intro key33
                                                                          apply cut_in
                                                                          · intro key34
                                                                            apply cut_in
                                                                            · intro key35
                                                                              apply cut_in
                                                                              · intro key36
                                                                                apply cut_in
                                                                                · intro key37
                                                                                  apply cut_in
                                                                                  · intro key38
                                                                                    apply cut_in
                                                                                    · intro key39
                                                                                      apply cut_in
                                                                                      · intro key40
                                                                                        apply cut_in
                                                                                        · intro key41
                                                                                          apply cut_in
                                                                                          · intro key42
                                                                                            apply cut_in
                                                                                            · intro key43
                                                                                              apply cut_in
                                                                                              · intro key44
                                                                                                refine wpAnyIn_ready (rs := [0, 1, 2, 7]) (by kernel_rfl) (by simp) ?_
                                                                                                refine AllReadyIn.cons rfl (fun K hK => ?_) (AllReadyIn.cons rfl (fun K hK => ?_) (AllReadyIn.cons rfl (fun K hK => ?_) (AllReadyIn.cons rfl (fun K hK => ?_) AllReadyIn.nil)))
                                                                                                · go_simp
                                                                                                  refine hK _ _ ?_
                                                                                                  clear hK K
                                                                                                  refine wpAnyIn_ready (rs := [1, 2, 7]) (by kernel_rfl) (by simp) ?_
                                                                                                  refine AllReadyIn.cons rfl (fun K hK => ?_) (AllReadyIn.cons rfl (fun K hK => ?_) (AllReadyIn.cons rfl (fun K hK => ?_) AllReadyIn.nil))
                                                                                                  · go_simp
                                                                                                    refine hK _ _ ?_
                                                                                                    clear hK K
                                                                                                    refine wpAnyIn_listed (L := #[true, true, false, false, false, false, false, false, false, false, false, false]) (by kernel_rfl) ?_
                                                                                                    exact key39
                                                                                                  · go_simp
                                                                                                    refine hK _ _ ?_
                                                                                                    clear hK K
                                                                                                    refine wpAnyIn_listed (L := #[true, false, true, false, false, false, false, false, false, false, false, false]) (by kernel_rfl) ?_
                                                                                                    exact key40
                                                                                                  · go_simp
                                                                                                    refine hK _ _ ?_
                                                                                                    clear hK K
                                                                                                    refine wpAnyIn_listed (L := #[true, false, false, false, false, false, false, true, false, false, false, false]) (by kernel_rfl) ?_
                                                                                                    exact key41
                                                                                                · go_simp
                                                                                                  refine hK _ _ ?_
                                                                                                  clear hK K
                                                                                                  refine wpAnyIn_ready (rs := [0, 2, 7]) (by kernel_rfl) (by simp) ?_
                                                                                                  refine AllReadyIn.cons rfl (fun K hK => ?_) (AllReadyIn.cons rfl (fun K hK => ?_) (AllReadyIn.cons rfl (fun K hK => ?_) AllReadyIn.nil))
                                                                                                  · go_simp
                                                                                                    refine hK _ _ ?_
                                                                                                    clear hK K
                                                                                                    refine wpAnyIn_listed (L := #[true, true, false, false, false, false, false, false, false, false, false, false]) (by kernel_rfl) ?_
                                                                                                    exact key39
                                                                                                  · go_simp
                                                                                                    refine hK _ _ ?_
                                                                                                    clear hK K
                                                                                                    refine wpAnyIn_listed (L := #[false, true, true, false, false, false, false, false, false, false, false, false]) (by kernel_rfl) ?_
                                                                                                    exact key42
                                                                                                  · go_simp
                                                                                                    refine hK _ _ ?_
                                                                                                    clear hK K
                                                                                                    refine wpAnyIn_listed (L := #[false, true, false, false, false, false, false, true, false, false, false, false]) (by kernel_rfl) ?_
                                                                                                    exact key43
                                                                                                · go_simp
                                                                                                  refine hK _ _ ?_
                                                                                                  clear hK K
                                                                                                  refine wpAnyIn_ready (rs := [0, 1, 3, 7]) (by kernel_rfl) (by simp) ?_
                                                                                                  refine AllReadyIn.cons rfl (fun K hK => ?_) (AllReadyIn.cons rfl (fun K hK => ?_) (AllReadyIn.cons rfl (fun K hK => ?_) (AllReadyIn.cons rfl (fun K hK => ?_) AllReadyIn.nil)))
                                                                                                  · go_simp
                                                                                                    refine hK _ _ ?_
                                                                                                    clear hK K
                                                                                                    refine wpAnyIn_listed (L := #[true, false, true, false, false, false, false, false, false, false, false, false]) (by kernel_rfl) ?_
                                                                                                    exact key40
                                                                                                  · go_simp
                                                                                                    refine hK _ _ ?_
                                                                                                    clear hK K
                                                                                                    refine wpAnyIn_listed (L := #[false, true, true, false, false, false, false, false, false, false, false, false]) (by kernel_rfl) ?_
                                                                                                    exact key42
                                                                                                  · go_simp
                                                                                                    refine hK _ _ ?_
                                                                                                    clear hK K
                                                                                                    refine wpAnyIn_ready (rs := [0, 1, 4, 7]) (by kernel_rfl) (by simp) ?_
                                                                                                    refine AllReadyIn.cons rfl (fun K hK => ?_) (AllReadyIn.cons rfl (fun K hK => ?_) (AllReadyIn.cons rfl (fun K hK => ?_) (AllReadyIn.cons rfl (fun K hK => ?_) AllReadyIn.nil)))
                                                                                                    · go_simp
                                                                                                      refine hK _ _ ?_
                                                                                                      clear hK K
                                                                                                      refine wpAnyIn_listed (L := #[true, false, true, true, false, false, false, false, false, false, false, false]) (by kernel_rfl) ?_
                                                                                                      exact key34
                                                                                                    · go_simp
                                                                                                      refine hK _ _ ?_
                                                                                                      clear hK K
                                                                                                      refine wpAnyIn_listed (L := #[false, true, true, true, false, false, false, false, false, false, false, false]) (by kernel_rfl) ?_
                                                                                                      exact key36
                                                                                                    · go_simp
                                                                                                      refine hK _ _ ?_
                                                                                                      clear hK K
                                                                                                      refine wpAnyIn_ready (rs := [0, 1, 5, 7]) (by kernel_rfl) (by simp) ?_
                                                                                                      refine AllReadyIn.cons rfl (fun K hK => ?_) (AllReadyIn.cons rfl (fun K hK => ?_) (AllReadyIn.cons rfl (fun K hK => ?_) (AllReadyIn.cons rfl (fun K hK => ?_) AllReadyIn.nil)))
                                                                                                      · go_simp
                                                                                                        refine hK _ _ ?_
                                                                                                        clear hK K
                                                                                                        refine wpAnyIn_listed (L := #[true, false, true, true, true, false, false, false, false, false, false, false]) (by kernel_rfl) ?_
                                                                                                        exact key27
                                                                                                      · go_simp
                                                                                                        refine hK _ _ ?_
                                                                                                        clear hK K
                                                                                                        refine wpAnyIn_listed (L := #[false, true, true, true, true, false, false, false, false, false, false, false]) (by kernel_rfl) ?_
                                                                                                        exact key29
                                                                                                      · go_simp
                                                                                                        refine hK _ _ ?_
                                                                                                        clear hK K
                                                                                                        refine wpAnyIn_ready (rs := [0, 1, 6, 7]) (by kernel_rfl) (by simp) ?_
                                                                                                        refine AllReadyIn.cons rfl (fun K hK => ?_) (AllReadyIn.cons rfl (fun K hK => ?_) (AllReadyIn.cons rfl (fun K hK => ?_) (AllReadyIn.cons rfl (fun K hK => ?_) AllReadyIn.nil)))
                                                                                                        · go_simp
                                                                                                          refine hK _ _ ?_
                                                                                                          clear hK K
                                                                                                          refine wpAnyIn_listed (L := #[true, false, true, true, true, true, false, false, false, false, false, false]) (by kernel_rfl) ?_
                                                                                                          exact key20
                                                                                                        · go_simp
                                                                                                          refine hK _ _ ?_
                                                                                                          clear hK K
                                                                                                          refine wpAnyIn_listed (L := #[false, true, true, true, true, true, false, false, false, false, false, false]) (by kernel_rfl) ?_
                                                                                                          exact key22
                                                                                                        · go_simp
                                                                                                          refine hK _ _ ?_
                                                                                                          clear hK K
                                                                                                          refine wpAnyIn_ready (rs := [0, 1, 7]) (by kernel_rfl) (by simp) ?_
                                                                                                          refine AllReadyIn.cons rfl (fun K hK => ?_) (AllReadyIn.cons rfl (fun K hK => ?_) (AllReadyIn.cons rfl (fun K hK => ?_) AllReadyIn.nil))
                                                                                                          · go_simp
                                                                                                            refine hK _ _ ?_
                                                                                                            clear hK K
                                                                                                            refine wpAnyIn_listed (L := #[true, false, true, true, true, true, true, false, false, false, false, false]) (by kernel_rfl) ?_
                                                                                                            exact key13
                                                                                                          · go_simp
                                                                                                            refine hK _ _ ?_
                                                                                                            clear hK K
                                                                                                            refine wpAnyIn_listed (L := #[false, true, true, true, true, true, true, false, false, false, false, false]) (by kernel_rfl) ?_
                                                                                                            exact key15
                                                                                                          · go_simp
                                                                                                            refine hK _ _ ?_
                                                                                                            clear hK K
                                                                                                            refine wpAnyIn_listed (L := #[false, false, true, true, true, true, true, true, false, false, false, false]) (by kernel_rfl) ?_
                                                                                                            exact key17
                                                                                                        · go_simp
                                                                                                          refine hK _ _ ?_
                                                                                                          clear hK K
                                                                                                          refine wpAnyIn_listed (L := #[false, false, true, true, true, true, false, true, false, false, false, false]) (by kernel_rfl) ?_
                                                                                                          exact key24
                                                                                                      · go_simp
                                                                                                        refine hK _ _ ?_
                                                                                                        clear hK K
                                                                                                        refine wpAnyIn_listed (L := #[false, false, true, true, true, false, false, true, false, false, false, false]) (by kernel_rfl) ?_
                                                                                                        exact key31
                                                                                                    · go_simp
                                                                                                      refine hK _ _ ?_
                                                                                                      clear hK K
                                                                                                      refine wpAnyIn_listed (L := #[false, false, true, true, false, false, false, true, false, false, false, false]) (by kernel_rfl) ?_
                                                                                                      exact key38
                                                                                                  · go_simp
                                                                                                    refine hK _ _ ?_
                                                                                                    clear hK K
                                                                                                    refine wpAnyIn_listed (L := #[false, false, true, false, false, false, false, true, false, false, false, false]) (by kernel_rfl) ?_
                                                                                                    exact key44
                                                                                                · go_simp
                                                                                                  refine hK _ _ ?_
                                                                                                  clear hK K
                                                                                                  refine wpAnyIn_ready (rs := [0, 1, 2]) (by kernel_rfl) (by simp) ?_
                                                                                                  refine AllReadyIn.cons rfl (fun K hK => ?_) (AllReadyIn.cons rfl (fun K hK => ?_) (AllReadyIn.cons rfl (fun K hK => ?_) AllReadyIn.nil))
                                                                                                  · go_simp
                                                                                                    refine hK _ _ ?_
                                                                                                    clear hK K
                                                                                                    refine wpAnyIn_listed (L := #[true, false, false, false, false, false, false, true, false, false, false, false]) (by kernel_rfl) ?_
                                                                                                    exact key41
                                                                                                  · go_simp
                                                                                                    refine hK _ _ ?_
                                                                                                    clear hK K
                                                                                                    refine wpAnyIn_listed (L := #[false, true, false, false, false, false, false, true, false, false, false, false]) (by kernel_rfl) ?_
                                                                                                    exact key43
                                                                                                  · go_simp
                                                                                                    refine hK _ _ ?_
                                                                                                    clear hK K
                                                                                                    refine wpAnyIn_listed (L := #[false, false, true, false, false, false, false, true, false, false, false, false]) (by kernel_rfl) ?_
                                                                                                    exact key44
                                                                                              · refine wpAnyIn_ready (rs := [0, 1, 3]) (by kernel_rfl) (by simp) ?_
                                                                                                refine AllReadyIn.cons rfl (fun K hK => ?_) (AllReadyIn.cons rfl (fun K hK => ?_) (AllReadyIn.cons rfl (fun K hK => ?_) AllReadyIn.nil))
                                                                                                · go_simp
                                                                                                  refine hK _ _ ?_
                                                                                                  clear hK K
                                                                                                  refine wpAnyIn_listed (L := #[true, false, true, false, false, false, false, true, false, false, false, false]) (by kernel_rfl) ?_
                                                                                                  exact key35
                                                                                                · go_simp
                                                                                                  refine hK _ _ ?_
                                                                                                  clear hK K
                                                                                                  refine wpAnyIn_listed (L := #[false, true, true, false, false, false, false, true, false, false, false, false]) (by kernel_rfl) ?_
                                                                                                  exact key37
                                                                                                · go_simp
                                                                                                  refine hK _ _ ?_
                                                                                                  clear hK K
                                                                                                  refine wpAnyIn_listed (L := #[false, false, true, true, false, false, false, true, false, false, false, false]) (by kernel_rfl) ?_
                                                                                                  exact key38
                                                                                            · refine wpAnyIn_ready (rs := [0, 2]) (by kernel_rfl) (by simp) ?_
                                                                                              refine AllReadyIn.cons rfl (fun K hK => ?_) (AllReadyIn.cons rfl (fun K hK => ?_) AllReadyIn.nil)
                                                                                              · go_simp
                                                                                                refine hK _ _ ?_
                                                                                                clear hK K
                                                                                                refine wpAnyIn_listed (L := #[true, true, false, false, false, false, false, true, false, false, false, false]) (by kernel_rfl) ?_
                                                                                                exact key33
                                                                                              · go_simp
                                                                                                refine hK _ _ ?_
                                                                                                clear hK K
                                                                                                refine wpAnyIn_listed (L := #[false, true, true, false, false, false, false, true, false, false, false, false]) (by kernel_rfl) ?_
                                                                                                exact key37
                                                                                          · refine wpAnyIn_ready (rs := [0, 3, 7]) (by kernel_rfl) (by simp) ?_
                                                                                            refine AllReadyIn.cons rfl (fun K hK => ?_) (AllReadyIn.cons rfl (fun K hK => ?_) (AllReadyIn.cons rfl (fun K hK => ?_) AllReadyIn.nil))
                                                                                            · go_simp
                                                                                              refine hK _ _ ?_
                                                                                              clear hK K
                                                                                              refine wpAnyIn_listed (L := #[true, true, true, false, false, false, false, false, false, false, false, false]) (by kernel_rfl) ?_
                                                                                              exact key32
                                                                                            · go_simp
                                                                                              refine hK _ _ ?_
                                                                                              clear hK K
                                                                                              refine wpAnyIn_listed (L := #[false, true, true, true, false, false, false, false, false, false, false, false]) (by kernel_rfl) ?_
                                                                                              exact key36
                                                                                            · go_simp
                                                                                              refine hK _ _ ?_
                                                                                              clear hK K
                                                                                              refine wpAnyIn_listed (L := #[false, true, true, false, false, false, false, true, false, false, false, false]) (by kernel_rfl) ?_
                                                                                              exact key37
                                                                                        · refine wpAnyIn_ready (rs := [1, 2]) (by kernel_rfl) (by simp) ?_
                                                                                          refine AllReadyIn.cons rfl (fun K hK => ?_) (AllReadyIn.cons rfl (fun K hK => ?_) AllReadyIn.nil)
                                                                                          · go_simp
                                                                                            refine hK _ _ ?_
                                                                                            clear hK K
                                                                                            refine wpAnyIn_listed (L := #[true, true, false, false, false, false, false, true, false, false, false, false]) (by kernel_rfl) ?_
                                                                                            exact key33
                                                                                          · go_simp
                                                                                            refine hK _ _ ?_
                                                                                            clear hK K
                                                                                            refine wpAnyIn_listed (L := #[true, false, true, false, false, false, false, true, false, false, false, false]) (by kernel_rfl) ?_
                                                                                            exact key35
                                                                                      · refine wpAnyIn_ready (rs := [1, 3, 7]) (by kernel_rfl) (by simp) ?_
                                                                                        refine AllReadyIn.cons rfl (fun K hK => ?_) (AllReadyIn.cons rfl (fun K hK => ?_) (AllReadyIn.cons rfl (fun K hK => ?_) AllReadyIn.nil))
                                                                                        · go_simp
                                                                                          refine hK _ _ ?_
                                                                                          clear hK K
                                                                                          refine wpAnyIn_listed (L := #[true, true, true, false, false, false, false, false, false, false, false, false]) (by kernel_rfl) ?_
                                                                                          exact key32
                                                                                        · go_simp
                                                                                          refine hK _ _ ?_
                                                                                          clear hK K
                                                                                          refine wpAnyIn_listed (L := #[true, false, true, true, false, false, false, false, false, false, false, false]) (by kernel_rfl) ?_
                                                                                          exact key34
                                                                                        · go_simp
                                                                                          refine hK _ _ ?_
                                                                                          clear hK K
                                                                                          refine wpAnyIn_listed (L := #[true, false, true, false, false, false, false, true, false, false, false, false]) (by kernel_rfl) ?_
                                                                                          exact key35
                                                                                    · refine wpAnyIn_ready (rs := [2, 7]) (by kernel_rfl) (by simp) ?_
                                                                                      refine AllReadyIn.cons rfl (fun K hK => ?_) (AllReadyIn.cons rfl (fun K hK => ?_) AllReadyIn.nil)
                                                                                      · go_simp
                                                                                        refine hK _ _ ?_
                                                                                        clear hK K
                                                                                        refine wpAnyIn_listed (L := #[true, true, true, false, false, false, false, false, false, false, false, false]) (by kernel_rfl) ?_
                                                                                        exact key32
                                                                                      · go_simp
                                                                                        refine hK _ _ ?_
                                                                                        clear hK K
                                                                                        refine wpAnyIn_listed (L := #[true, true, false, false, false, false, false, true, false, false, false, false]) (by kernel_rfl) ?_
                                                                                        exact key33
                                                                                  · refine wpAnyIn_ready (rs := [0, 1, 4]) (by kernel_rfl) (by simp) ?_
                                                                                    refine AllReadyIn.cons rfl (fun K hK => ?_) (AllReadyIn.cons rfl (fun K hK => ?_) (AllReadyIn.cons rfl (fun K hK => ?_) AllReadyIn.nil))
                                                                                    · go_simp
                                                                                      refine hK _ _ ?_
                                                                                      clear hK K
                                                                                      refine wpAnyIn_listed (L := #[true, false, true, true, false, false, false, true, false, false, false, false]) (by kernel_rfl) ?_
                                                                                      exact key28
                                                                                    · go_simp
                                                                                      refine hK _ _ ?_
                                                                                      clear hK K
                                                                                      refine wpAnyIn_listed (L := #[false, true, true, true, false, false, false, true, false, false, false, false]) (by kernel_rfl) ?_
                                                                                      exact key30
                                                                                    · go_simp
                                                                                      refine hK _ _ ?_
                                                                                      clear hK K
                                                                                      refine wpAnyIn_listed (L := #[false, false, true, true, true, false, false, true, false, false, false, false]) (by kernel_rfl) ?_
                                                                                      exact key31
                                                                                · refine wpAnyIn_ready (rs := [0, 3]) (by kernel_rfl) (by simp) ?_
                                                                                  refine AllReadyIn.cons rfl (fun K hK => ?_) (AllReadyIn.cons rfl (fun K hK => ?_) AllReadyIn.nil)
                                                                                  · go_simp
                                                                                    refine hK _ _ ?_
                                                                                    clear hK K
                                                                                    refine wpAnyIn_listed (L := #[true, true, true, false, false, false, false, true, false, false, false, false]) (by kernel_rfl) ?_
                                                                                    exact key26
                                                                                  · go_simp
                                                                                    refine hK _ _ ?_
                                                                                    clear hK K
                                                                                    refine wpAnyIn_listed (L := #[false, true, true, true, false, false, false, true, false, false, false, false]) (by kernel_rfl) ?_
                                                                                    exact key30
                                                                              · refine wpAnyIn_ready (rs := [0, 4, 7]) (by kernel_rfl) (by simp) ?_
                                                                                refine AllReadyIn.cons rfl (fun K hK => ?_) (AllReadyIn.cons rfl (fun K hK => ?_) (AllReadyIn.cons rfl (fun K hK => ?_) AllReadyIn.nil))
                                                                                · go_simp
                                                                                  refine hK _ _ ?_
                                                                                  clear hK K
                                                                                  refine wpAnyIn_listed (L := #[true, true, true, true, false, false, false, false, false, false, false, false]) (by kernel_rfl) ?_
                                                                                  exact key25
                                                                                · go_simp
                                                                                  refine hK _ _ ?_
                                                                                  clear hK K
                                                                                  refine wpAnyIn_listed (L := #[false, true, true, true, true, false, false, false, false, false, false, false]) (by kernel_rfl) ?_
                                                                                  exact key29
                                                                                · go_simp
                                                                                  refine hK _ _ ?_
                                                                                  clear hK K
                                                                                  refine wpAnyIn_listed (L := #[false, true, true, true, false, false, false, true, false, false, false, false]) (by kernel_rfl) ?_
                                                                                  exact key30
                                                                            · refine wpAnyIn_ready (rs := [1, 3]) (by kernel_rfl) (by simp) ?_
                                                                              refine AllReadyIn.cons rfl (fun K hK => ?_) (AllReadyIn.cons rfl (fun K hK => ?_) AllReadyIn.nil)
                                                                              · go_simp
                                                                                refine hK _ _ ?_
                                                                                clear hK K
                                                                                refine wpAnyIn_listed (L := #[true, true, true, false, false, false, false, true, false, false, false, false]) (by kernel_rfl) ?_
                                                                                exact key26
                                                                              · go_simp
                                                                                refine hK _ _ ?_
                                                                                clear hK K
                                                                                refine wpAnyIn_listed (L := #[true, false, true, true, false, false, false, true, false, false, false, false]) (by kernel_rfl) ?_
                                                                                exact key28
                                                                          · refine wpAnyIn_ready (rs := [1, 4, 7]) (by kernel_rfl) (by simp) ?_
                                                                            refine AllReadyIn.cons rfl (fun K hK => ?_) (AllReadyIn.cons rfl (fun K hK => ?_) (AllReadyIn.cons rfl (fun K hK => ?_) AllReadyIn.nil))
                                                                            · go_simp
                                                                              refine hK _ _ ?_
                                                                              clear hK K
                                                                              refine wpAnyIn_listed (L := #[true, true, true, true, false, false, false, false, false, false, false, false]) (by kernel_rfl) ?_
                                                                              exact key25
                                                                            · go_simp
                                                                              refine hK _ _ ?_
                                                                              clear hK K
                                                                              refine wpAnyIn_listed (L := #[true, false, true, true, true, false, false, false, false, false, false, false]) (by kernel_rfl) ?_
                                                                              exact key27
                                                                            · go_simp
                                                                              refine hK _ _ ?_
                                                                              clear hK K
                                                                              refine wpAnyIn_listed (L := #[true, false, true, true, false, false, false, true, false, false, false, false]) (by kernel_rfl) ?_
                                                                              exact key28
                                                                        · refine wpAnyIn_ready (rs := [2]) (by kernel_rfl) (by simp) ?_
                                                                          refine AllReadyIn.cons rfl (fun K hK => ?_) AllReadyIn.nil
                                                                          go_simp
                                                                          refine hK _ _ ?_
                                                                          clear hK K
                                                                          refine wpAnyIn_listed (L := #[true, true, true, false, false, false, false, true, false, false, false, false]) (by kernel_rfl) ?_
                                                                          exact key26
                                                                      · refine wpAnyIn_ready (rs := [3, 7]) (by kernel_rfl) (by simp) ?_
                                                                        refine AllReadyIn.cons rfl (fun K hK => ?_) (AllReadyIn.cons rfl (fun K hK => ?_) AllReadyIn.nil)
                                                                        · go_simp
                                                                          refine hK _ _ ?_
                                                                          clear hK K
                                                                          refine wpAnyIn_listed (L := #[true, true, true, true, false, false, false, false, false, false, false, false]) (by kernel_rfl) ?_
                                                                          exact key25
                                                                        · go_simp
                                                                          refine hK _ _ ?_
                                                                          clear hK K
                                                                          refine wpAnyIn_listed (L := #[true, true, true, false, false, false, false, true, false, false, false, false]) (by kernel_rfl) ?_
                                                                          exact key26
                                                                    · refine wpAnyIn_ready (rs := [0, 1, 5]) (by kernel_rfl) (by simp) ?_
                                                                      refine AllReadyIn.cons rfl (fun K hK => ?_) (AllReadyIn.cons rfl (fun K hK => ?_) (AllReadyIn.cons rfl (fun K hK => ?_) AllReadyIn.nil))
                                                                      · go_simp
                                                                        refine hK _ _ ?_
                                                                        clear hK K
                                                                        refine wpAnyIn_listed (L := #[true, false, true, true, true, false, false, true, false, false, false, false]) (by kernel_rfl) ?_
                                                                        exact key21
                                                                      · go_simp
                                                                        refine hK _ _ ?_
                                                                        clear hK K
                                                                        refine wpAnyIn_listed (L := #[false, true, true, true, true, false, false, true, false, false, false, false]) (by kernel_rfl) ?_
                                                                        exact key23
                                                                      · go_simp
                                                                        refine hK _ _ ?_
                                                                        clear hK K
                                                                        refine wpAnyIn_listed (L := #[false, false, true, true, true, true, false, true, false, false, false, false]) (by kernel_rfl) ?_
                                                                        exact key24
                                                                  · refine wpAnyIn_ready (rs := [0, 4]) (by kernel_rfl) (by simp) ?_
                                                                    refine AllReadyIn.cons rfl (fun K hK => ?_) (AllReadyIn.cons rfl (fun K hK => ?_) AllReadyIn.nil)
                                                                    · go_simp
                                                                      refine hK _ _ ?_
                                                                      clear hK K
                                                                      refine wpAnyIn_listed (L := #[true, true, true, true, false, false, false, true, false, false, false, false]) (by kernel_rfl) ?_
                                                                      exact key19
                                                                    · go_simp
                                                                      refine hK _ _ ?_
                                                                      clear hK K
                                                                      refine wpAnyIn_listed (L := #[false, true, true, true, true, false, false, true, false, false, false, false]) (by kernel_rfl) ?_
                                                                      exact key23
                                                                · refine wpAnyIn_ready (rs := [0, 5, 7]) (by kernel_rfl) (by simp) ?_
                                                                  refine AllReadyIn.cons rfl (fun K hK => ?_) (AllReadyIn.cons rfl (fun K hK => ?_) (AllReadyIn.cons rfl (fun K hK => ?_) AllReadyIn.nil))
                                                                  · go_simp
                                                                    refine hK _ _ ?_
                                                                    clear hK K
                                                                    refine wpAnyIn_listed (L := #[true, true, true, true, true, false, false, false, false, false, false, false]) (by kernel_rfl) ?_
                                                                    exact key18
                                                                  · go_simp
                                                                    refine hK _ _ ?_
                                                                    clear hK K
                                                                    refine wpAnyIn_listed (L := #[false, true, true, true, true, true, false, false, false, false, false, false]) (by kernel_rfl) ?_
                                                                    exact key22
                                                                  · go_simp
                                                                    refine hK _ _ ?_
                                                                    clear hK K
                                                                    refine wpAnyIn_listed (L := #[false, true, true, true, true, false, false, true, false, false, false, false]) (by kernel_rfl) ?_
                                                                    exact key23
                                                              · refine wpAnyIn_ready (rs := [1, 4]) (by kernel_rfl) (by simp) ?_
                                                                refine AllReadyIn.cons rfl (fun K hK => ?_) (AllReadyIn.cons rfl (fun K hK => ?_) AllReadyIn.nil)
                                                                · go_simp
                                                                  refine hK _ _ ?_
                                                                  clear hK K
                                                                  refine wpAnyIn_listed (L := #[true, true, true, true, false, false, false, true, false, false, false, false]) (by kernel_rfl) ?_
                                                                  exact key19
                                                                · go_simp
                                                                  refine hK _ _ ?_
                                                                  clear hK K
                                                                  refine wpAnyIn_listed (L := #[true, false, true, true, true, false, false, true, false, false, false, false]) (by kernel_rfl) ?_
                                                                  exact key21
                                                            · refine wpAnyIn_ready (rs := [1, 5, 7]) (by kernel_rfl) (by simp) ?_
                                                              refine AllReadyIn.cons rfl (fun K hK => ?_) (AllReadyIn.cons rfl (fun K hK => ?_) (AllReadyIn.cons rfl (fun K hK => ?_) AllReadyIn.nil))
                                                              · go_simp
                                                                refine hK _ _ ?_
                                                                clear hK K
                                                                refine wpAnyIn_listed (L := #[true, true, true, true, true, false, false, false, false, false, false, false]) (by kernel_rfl) ?_
                                                                exact key18
                                                              · go_simp
                                                                refine hK _ _ ?_
                                                                clear hK K
                                                                refine wpAnyIn_listed (L := #[true, false, true, true, true, true, false, false, false, false, false, false]) (by kernel_rfl) ?_
                                                                exact key20
                                                              · go_simp
                                                                refine hK _ _ ?_
                                                                clear hK K
                                                                refine wpAnyIn_listed (L := #[true, false, true, true, true, false, false, true, false, false, false, false]) (by kernel_rfl) ?_
                                                                exact key21
                                                          · refine wpAnyIn_ready (rs := [3]) (by kernel_rfl) (by simp) ?_
                                                            refine AllReadyIn.cons rfl (fun K hK => ?_) AllReadyIn.nil
                                                            go_simp
                                                            refine hK _ _ ?_
                                                            clear hK K
                                                            refine wpAnyIn_listed (L := #[true, true, true, true, false, false, false, true, false, false, false, false]) (by kernel_rfl) ?_
                                                            exact key19
                                                        · refine wpAnyIn_ready (rs := [4, 7]) (by kernel_rfl) (by simp) ?_
                                                          refine AllReadyIn.cons rfl (fun K hK => ?_) (AllReadyIn.cons rfl (fun K hK => ?_) AllReadyIn.nil)
                                                          · go_simp
                                                            refine hK _ _ ?_
                                                            clear hK K
                                                            refine wpAnyIn_listed (L := #[true, true, true, true, true, false, false, false, false, false, false, false]) (by kernel_rfl) ?_
                                                            exact key18
                                                          · go_simp
                                                            refine hK _ _ ?_
                                                            clear hK K
                                                            refine wpAnyIn_listed (L := #[true, true, true, true, false, false, false, true, false, false, false, false]) (by kernel_rfl) ?_
                                                            exact key19
                                                      · refine wpAnyIn_ready (rs := [0, 1, 6]) (by kernel_rfl) (by simp) ?_
                                                        refine AllReadyIn.cons rfl (fun K hK => ?_) (AllReadyIn.cons rfl (fun K hK => ?_) (AllReadyIn.cons rfl (fun K hK => ?_) AllReadyIn.nil))
                                                        · go_simp
                                                          refine hK _ _ ?_
                                                          clear hK K
                                                          refine wpAnyIn_listed (L := #[true, false, true, true, true, true, false, true, false, false, false, false]) (by kernel_rfl) ?_
                                                          exact key14
                                                        · go_simp
                                                          refine hK _ _ ?_
                                                          clear hK K
                                                          refine wpAnyIn_listed (L := #[false, true, true, true, true, true, false, true, false, false, false, false]) (by kernel_rfl) ?_
                                                          exact key16
                                                        · go_simp
                                                          refine hK _ _ ?_
                                                          clear hK K
                                                          refine wpAnyIn_listed (L := #[false, false, true, true, true, true, true, true, false, false, false, false]) (by kernel_rfl) ?_
                                                          exact key17
                                                    · refine wpAnyIn_ready (rs := [0, 5]) (by kernel_rfl) (by simp) ?_
                                                      refine AllReadyIn.cons rfl (fun K hK => ?_) (AllReadyIn.cons rfl (fun K hK => ?_) AllReadyIn.nil)
                                                      · go_simp
                                                        refine hK _ _ ?_
                                                        clear hK K
                                                        refine wpAnyIn_listed (L := #[true, true, true, true, true, false, false, true, false, false, false, false]) (by kernel_rfl) ?_
                                                        exact key12
                                                      · go_simp
                                                        refine hK _ _ ?_
                                                        clear hK K
                                                        refine wpAnyIn_listed (L := #[false, true, true, true, true, true, false, true, false, false, false, false]) (by kernel_rfl) ?_
                                                        exact key16
                                                  · refine wpAnyIn_ready (rs := [0, 6, 7]) (by kernel_rfl) (by simp) ?_
                                                    refine AllReadyIn.cons rfl (fun K hK => ?_) (AllReadyIn.cons rfl (fun K hK => ?_) (AllReadyIn.cons rfl (fun K hK => ?_) AllReadyIn.nil))
                                                    · go_simp
                                                      refine hK _ _ ?_
                                                      clear hK K
                                                      refine wpAnyIn_listed (L := #[true, true, true, true, true, true, false, false, false, false, false, false]) (by kernel_rfl) ?_
                                                      exact key11
                                                    · go_simp
                                                      refine hK _ _ ?_
                                                      clear hK K
                                                      refine wpAnyIn_listed (L := #[false, true, true, true, true, true, true, false, false, false, false, false]) (by kernel_rfl) ?_
                                                      exact key15
                                                    · go_simp
                                                      refine hK _ _ ?_
                                                      clear hK K
                                                      refine wpAnyIn_listed (L := #[false, true, true, true, true, true, false, true, false, false, false, false]) (by kernel_rfl) ?_
                                                      exact key16
                                                · refine wpAnyIn_ready (rs := [1, 5]) (by kernel_rfl) (by simp) ?_
                                                  refine AllReadyIn.cons rfl (fun K hK => ?_) (AllReadyIn.cons rfl (fun K hK => ?_) AllReadyIn.nil)
                                                  · go_simp
                                                    refine hK _ _ ?_
                                                    clear hK K
                                                    refine wpAnyIn_listed (L := #[true, true, true, true, true, false, false, true, false, false, false, false]) (by kernel_rfl) ?_
                                                    exact key12
                                                  · go_simp
                                                    refine hK _ _ ?_
                                                    clear hK K
                                                    refine wpAnyIn_listed (L := #[true, false, true, true, true, true, false, true, false, false, false, false]) (by kernel_rfl) ?_
                                                    exact key14
                                              · refine wpAnyIn_ready (rs := [1, 6, 7]) (by kernel_rfl) (by simp) ?_
                                                refine AllReadyIn.cons rfl (fun K hK => ?_) (AllReadyIn.cons rfl (fun K hK => ?_) (AllReadyIn.cons rfl (fun K hK => ?_) AllReadyIn.nil))
                                                · go_simp
                                                  refine hK _ _ ?_
                                                  clear hK K
                                                  refine wpAnyIn_listed (L := #[true, true, true, true, true, true, false, false, false, false, false, false]) (by kernel_rfl) ?_
                                                  exact key11
                                                · go_simp
                                                  refine hK _ _ ?_
                                                  clear hK K
                                                  refine wpAnyIn_listed (L := #[true, false, true, true, true, true, true, false, false, false, false, false]) (by kernel_rfl) ?_
                                                  exact key13
                                                · go_simp
                                                  refine hK _ _ ?_
                                                  clear hK K
                                                  refine wpAnyIn_listed (L := #[true, false, true, true, true, true, false, true, false, false, false, false]) (by kernel_rfl) ?_
                                                  exact key14
                                            · refine wpAnyIn_ready (rs := [4]) (by kernel_rfl) (by simp) ?_
                                              refine AllReadyIn.cons rfl (fun K hK => ?_) AllReadyIn.nil
                                              go_simp
                                              refine hK _ _ ?_
                                              clear hK K
                                              refine wpAnyIn_listed (L := #[true, true, true, true, true, false, false, true, false, false, false, false]) (by kernel_rfl) ?_
                                              exact key12
                                          · refine wpAnyIn_ready (rs := [5, 7]) (by kernel_rfl) (by simp) ?_
                                            refine AllReadyIn.cons rfl (fun K hK => ?_) (AllReadyIn.cons rfl (fun K hK => ?_) AllReadyIn.nil)
                                            · go_simp
                                              refine hK _ _ ?_
                                              clear hK K
                                              refine wpAnyIn_listed (L := #[true, true, true, true, true, true, false, false, false, false, false, false]) (by kernel_rfl) ?_
                                              exact key11
                                            · go_simp
                                              refine hK _ _ ?_
                                              clear hK K
                                              refine wpAnyIn_listed (L := #[true, true, true, true, true, false, false, true, false, false, false, false]) (by kernel_rfl) ?_
                                              exact key12
                                        · refine wpAnyIn_ready (rs := [0, 1, 8]) (by kernel_rfl) (by simp) ?_
                                          refine AllReadyIn.cons rfl (fun K hK => ?_) (AllReadyIn.cons rfl (fun K hK => ?_) (AllReadyIn.cons rfl (fun K hK => ?_) AllReadyIn.nil))
                                          · go_simp
                                            refine hK _ _ ?_
                                            clear hK K
                                            refine wpAnyIn_listed (L := #[true, false, true, true, true, true, true, true, false, false, false, false]) (by kernel_rfl) ?_
                                            exact key9
                                          · go_simp
                                            refine hK _ _ ?_
                                            clear hK K
                                            refine wpAnyIn_listed (L := #[false, true, true, true, true, true, true, true, false, false, false, false]) (by kernel_rfl) ?_
                                            exact key10
                                          · go_simp
                                            refine hK _ _ ?_
                                            clear hK K
                                            refine wpAnyIn_ready (rs := [0, 1, 9]) (by kernel_rfl) (by simp) ?_
                                            refine AllReadyIn.cons rfl (fun K hK => ?_) (AllReadyIn.cons rfl (fun K hK => ?_) (AllReadyIn.cons rfl (fun K hK => ?_) AllReadyIn.nil))
                                            · go_simp
                                              refine hK _ _ ?_
                                              clear hK K
                                              refine wpAnyIn_listed (L := #[true, false, true, true, true, true, true, true, true, false, false, false]) (by kernel_rfl) ?_
                                              exact key5
                                            · go_simp
                                              refine hK _ _ ?_
                                              clear hK K
                                              refine wpAnyIn_listed (L := #[false, true, true, true, true, true, true, true, true, false, false, false]) (by kernel_rfl) ?_
                                              exact key6
                                            · go_simp
                                              refine hK _ _ ?_
                                              clear hK K
                                              refine wpAnyIn_ready (rs := [0, 1]) (by kernel_rfl) (by simp) ?_
                                              refine AllReadyIn.cons rfl (fun K hK => ?_) (AllReadyIn.cons rfl (fun K hK => ?_) AllReadyIn.nil)
                                              · go_simp
                                                refine hK _ _ ?_
                                                clear hK K
                                                refine wpAnyIn_listed (L := #[true, false, true, true, true, true, true, true, true, true, false, false]) (by kernel_rfl) ?_
                                                exact key2
                                              · go_simp
                                                refine hK _ _ ?_
                                                clear hK K
                                                refine wpAnyIn_listed (L := #[false, true, true, true, true, true, true, true, true, true, false, false]) (by kernel_rfl) ?_
                                                exact key3
                                      · refine wpAnyIn_ready (rs := [0, 6]) (by kernel_rfl) (by simp) ?_
                                        refine AllReadyIn.cons rfl (fun K hK => ?_) (AllReadyIn.cons rfl (fun K hK => ?_) AllReadyIn.nil)
                                        · go_simp
                                          refine hK _ _ ?_
                                          clear hK K
                                          refine wpAnyIn_listed (L := #[true, true, true, true, true, true, false, true, false, false, false, false]) (by kernel_rfl) ?_
                                          exact key8
                                        · go_simp
                                          refine hK _ _ ?_
                                          clear hK K
                                          refine wpAnyIn_listed (L := #[false, true, true, true, true, true, true, true, false, false, false, false]) (by kernel_rfl) ?_
                                          exact key10
                                    · refine wpAnyIn_ready (rs := [0, 7]) (by kernel_rfl) (by simp) ?_
                                      refine AllReadyIn.cons rfl (fun K hK => ?_) (AllReadyIn.cons rfl (fun K hK => ?_) AllReadyIn.nil)
                                      · go_simp
                                        refine hK _ _ ?_
                                        clear hK K
                                        refine wpAnyIn_listed (L := #[true, true, true, true, true, true, true, false, false, false, false, false]) (by kernel_rfl) ?_
                                        exact key7
                                      · go_simp
                                        refine hK _ _ ?_
                                        clear hK K
                                        refine wpAnyIn_listed (L := #[false, true, true, true, true, true, true, true, false, false, false, false]) (by kernel_rfl) ?_
                                        exact key10
                                  · refine wpAnyIn_ready (rs := [1, 6]) (by kernel_rfl) (by simp) ?_
                                    refine AllReadyIn.cons rfl (fun K hK => ?_) (AllReadyIn.cons rfl (fun K hK => ?_) AllReadyIn.nil)
                                    · go_simp
                                      refine hK _ _ ?_
                                      clear hK K
                                      refine wpAnyIn_listed (L := #[true, true, true, true, true, true, false, true, false, false, false, false]) (by kernel_rfl) ?_
                                      exact key8
                                    · go_simp
                                      refine hK _ _ ?_
                                      clear hK K
                                      refine wpAnyIn_listed (L := #[true, false, true, true, true, true, true, true, false, false, false, false]) (by kernel_rfl) ?_
                                      exact key9
                                · refine wpAnyIn_ready (rs := [1, 7]) (by kernel_rfl) (by simp) ?_
                                  refine AllReadyIn.cons rfl (fun K hK => ?_) (AllReadyIn.cons rfl (fun K hK => ?_) AllReadyIn.nil)
                                  · go_simp
                                    refine hK _ _ ?_
                                    clear hK K
                                    refine wpAnyIn_listed (L := #[true, true, true, true, true, true, true, false, false, false, false, false]) (by kernel_rfl) ?_
                                    exact key7
                                  · go_simp
                                    refine hK _ _ ?_
                                    clear hK K
                                    refine wpAnyIn_listed (L := #[true, false, true, true, true, true, true, true, false, false, false, false]) (by kernel_rfl) ?_
                                    exact key9
                              · refine wpAnyIn_ready (rs := [5]) (by kernel_rfl) (by simp) ?_
                                refine AllReadyIn.cons rfl (fun K hK => ?_) AllReadyIn.nil
                                go_simp
                                refine hK _ _ ?_
                                clear hK K
                                refine wpAnyIn_listed (L := #[true, true, true, true, true, true, false, true, false, false, false, false]) (by kernel_rfl) ?_
                                exact key8
                            · refine wpAnyIn_ready (rs := [6, 7]) (by kernel_rfl) (by simp) ?_
                              refine AllReadyIn.cons rfl (fun K hK => ?_) (AllReadyIn.cons rfl (fun K hK => ?_) AllReadyIn.nil)
                              · go_simp
                                refine hK _ _ ?_
                                clear hK K
                                refine wpAnyIn_listed (L := #[true, true, true, true, true, true, true, false, false, false, false, false]) (by kernel_rfl) ?_
                                exact key7
                              · go_simp
                                refine hK _ _ ?_
                                clear hK K
                                refine wpAnyIn_listed (L := #[true, true, true, true, true, true, false, true, false, false, false, false]) (by kernel_rfl) ?_
                                exact key8
                          · refine wpAnyIn_ready (rs := [0, 8]) (by kernel_rfl) (by simp) ?_
                            refine AllReadyIn.cons rfl (fun K hK => ?_) (AllReadyIn.cons rfl (fun K hK => ?_) AllReadyIn.nil)
                            · go_simp
                              refine hK _ _ ?_
                              clear hK K
                              refine wpAnyIn_listed (L := #[true, true, true, true, true, true, true, true, false, false, false, false]) (by kernel_rfl) ?_
                              exact key4
                            · go_simp
                              refine hK _ _ ?_
                              clear hK K
                              refine wpAnyIn_listed (L := #[false, true, true, true, true, true, true, true, true, false, false, false]) (by kernel_rfl) ?_
                              exact key6
                        · refine wpAnyIn_ready (rs := [1, 8]) (by kernel_rfl) (by simp) ?_
                          refine AllReadyIn.cons rfl (fun K hK => ?_) (AllReadyIn.cons rfl (fun K hK => ?_) AllReadyIn.nil)
                          · go_simp
                            refine hK _ _ ?_
                            clear hK K
                            refine wpAnyIn_listed (L := #[true, true, true, true, true, true, true, true, false, false, false, false]) (by kernel_rfl) ?_
                            exact key4
                          · go_simp
                            refine hK _ _ ?_
                            clear hK K
                            refine wpAnyIn_listed (L := #[true, false, true, true, true, true, true, true, true, false, false, false]) (by kernel_rfl) ?_
                            exact key5
                      · refine wpAnyIn_ready (rs := [6]) (by kernel_rfl) (by simp) ?_
                        refine AllReadyIn.cons rfl (fun K hK => ?_) AllReadyIn.nil
                        go_simp
                        refine hK _ _ ?_
                        clear hK K
                        refine wpAnyIn_listed (L := #[true, true, true, true, true, true, true, true, false, false, false, false]) (by kernel_rfl) ?_
                        exact key4
                    · refine wpAnyIn_ready (rs := [7]) (by kernel_rfl) (by simp) ?_
                      refine AllReadyIn.cons rfl (fun K hK => ?_) AllReadyIn.nil
                      go_simp
                      refine hK _ _ ?_
                      clear hK K
                      refine wpAnyIn_listed (L := #[true, true, true, true, true, true, true, true, false, false, false, false]) (by kernel_rfl) ?_
                      exact key4
                  · refine wpAnyIn_ready (rs := [0, 9]) (by kernel_rfl) (by simp) ?_
                    refine AllReadyIn.cons rfl (fun K hK => ?_) (AllReadyIn.cons rfl (fun K hK => ?_) AllReadyIn.nil)
                    · go_simp
                      refine hK _ _ ?_
                      clear hK K
                      refine wpAnyIn_listed (L := #[true, true, true, true, true, true, true, true, true, false, false, false]) (by kernel_rfl) ?_
                      exact key1
                    · go_simp
                      refine hK _ _ ?_
                      clear hK K
                      refine wpAnyIn_listed (L := #[false, true, true, true, true, true, true, true, true, true, false, false]) (by kernel_rfl) ?_
                      exact key3
                · refine wpAnyIn_ready (rs := [1, 9]) (by kernel_rfl) (by simp) ?_
                  refine AllReadyIn.cons rfl (fun K hK => ?_) (AllReadyIn.cons rfl (fun K hK => ?_) AllReadyIn.nil)
                  · go_simp
                    refine hK _ _ ?_
                    clear hK K
                    refine wpAnyIn_listed (L := #[true, true, true, true, true, true, true, true, true, false, false, false]) (by kernel_rfl) ?_
                    exact key1
                  · go_simp
                    refine hK _ _ ?_
                    clear hK K
                    refine wpAnyIn_listed (L := #[true, false, true, true, true, true, true, true, true, true, false, false]) (by kernel_rfl) ?_
                    exact key2
              · refine wpAnyIn_ready (rs := [8]) (by kernel_rfl) (by simp) ?_
                refine AllReadyIn.cons rfl (fun K hK => ?_) AllReadyIn.nil
                go_simp
                refine hK _ _ ?_
                clear hK K
                refine wpAnyIn_listed (L := #[true, true, true, true, true, true, true, true, true, false, false, false]) (by kernel_rfl) ?_
                exact key1
            · refine wpAnyIn_ready (rs := [0]) (by kernel_rfl) (by simp) ?_
              refine AllReadyIn.cons rfl (fun K hK => ?_) AllReadyIn.nil
              go_simp
              refine hK _ _ ?_
              clear hK K
              refine wpAnyIn_listed (L := #[true, true, true, true, true, true, true, true, true, true, false, false]) (by kernel_rfl) ?_
              exact key0
          · refine wpAnyIn_ready (rs := [1]) (by kernel_rfl) (by simp) ?_
            refine AllReadyIn.cons rfl (fun K hK => ?_) AllReadyIn.nil
            go_simp
            refine hK _ _ ?_
            clear hK K
            refine wpAnyIn_listed (L := #[true, true, true, true, true, true, true, true, true, true, false, false]) (by kernel_rfl) ?_
            exact key0
        · refine wpAnyIn_ready (rs := [9]) (by kernel_rfl) (by simp) ?_
          refine AllReadyIn.cons rfl (fun K hK => ?_) AllReadyIn.nil
          go_simp
          refine hK _ _ ?_
          clear hK K
          refine wpAnyIn_listed (L := #[true, true, true, true, true, true, true, true, true, true, false, false]) (by kernel_rfl) ?_
          exact key0
      · refine wpAnyIn_ready (rs := [10]) (by kernel_rfl) (by simp) ?_
        refine AllReadyIn.cons rfl (fun K hK => ?_) AllReadyIn.nil
        go_simp
        refine HR3.out.mono ?_
        rintro e W3 ⟨bv, rfl, hres⟩
        refine hK _ _ ?_
        clear hK K
        refine wpAnyIn_ready (rs := [11]) (by kernel_rfl) (by simp) ?_
        refine AllReadyIn.cons rfl (fun K hK => ?_) AllReadyIn.nil
        go_simp
        refine hK _ _ ?_
        clear hK K
        refine wpAnyIn_done (by kernel_rfl) ?_ _
        rcases hres with ⟨rfl, hJ3, hk3⟩ | ⟨rfl, hJx3, hk3⟩
        · gi_wp2
          have hk4 : KpT b X W' W3 := KpT.trans (KpT.ofBelow ⟨rfl, rfl, rfl, Nat.le_refl _, fun _ _ => rfl⟩) hk3
          exact ⟨⟨hk4.1, fun k o hk0 ho hcc => hk4.2 k o (hoX (by omega)) (not_isT' hcc) ho⟩, hk4.mono (fun k h => .inl h), hJ3, hk.then hk4⟩
        · gi_wp2
          have hk4 : KpT b X W' W3 := KpT.trans (KpT.ofBelow ⟨rfl, rfl, rfl, Nat.le_refl _, fun _ _ => rfl⟩) hk3
          exact ⟨⟨hk4.1, fun k o hk0 ho hcc => hk4.2 k o (hoX (by omega)) (not_isT' hcc) ho⟩, hk4.mono (fun k h => .inl h), rfl, hJx3⟩
  case done =>
    rintro D ys W' hD hys ⟨hj, hk⟩ hK
    gi_wp2
    refine ⟨by simp, .inl ⟨_, _, rfl, run_takeDeferred hK, ?_⟩⟩
    exact ⟨_, results_none rfl _ _ _, ⟨_, rfl⟩, .inl ⟨ys, hys, hJ.putObj _ hj (by omega) hK rfl⟩⟩
  case stop =>
    rintro D c pre W' hD hpre ⟨rfl, hj⟩ hK
    gi_wp2
    refine ⟨by simp, .inl ⟨_, _, rfl, run_takeDeferred hK, ?_⟩⟩
    exact ⟨_, results_none rfl _ _ _, ⟨_, rfl⟩, .inr ⟨pre, hpre, hJx.putObj _ hj (by omega) hK rfl⟩⟩
end Go.Proofs.YtadkjjpopmiceaaGreat
