import Derived.Test.YtpchjpmkkiopiaaGreatMkAm
import Derived.RangeFuncNested
import Derived.RangeFuncBound
import Derived.RangeFuncCalls
import Derived.RangeFuncLeaves
import Derived.RangeFuncBox
import Derived.RangeFuncSeq
import Derived.Sort.MapsRangeIn
import Derived.Shelf.Abstract
import Derived.Shelf.RegionOpen
import Derived.OwnWalkIn
import Derived.TacticsInMore
import Derived.LoopNIn
import Derived.LoopIn
import Derived.Maps.AppendAt
namespace Go.Proofs.YtpchjpmkkiopiaaGreat
open Go.RowKit Go.Shelf Go.Maps
attribute [local go_sem] Oper.semAt_some

section
variable {k : TypeId} {κ : Type} {K : KK k κ} {w w' : World} {m r s cnt : Nat} {f : κ → Option Value} {vs : List κ}
theorem RangeV.walks (h : RangeV K w m r s f vs cnt) (hk : KeepsWalks w w') : RangeV K w' m r s f vs cnt := by
  obtain ⟨D, left, h1, h2⟩ := h
  exact ⟨D, left, h1.of_walks hk, h2⟩
theorem RangeV.alloc (h : RangeV K w m r s f vs cnt) (o : Obj) : RangeV K (w.alloc o) m r s f vs cnt := h.walks (KeepsWalks.alloc w o)
theorem wpListIn_range_V {F : Fence} {n : Nat} {ops : Array Oper} {rest : List Oper} {o : Oper} {a : Act} {Q : Exit → Act → World → Prop} (hg : o.guard = none) (mm : Operand) (t : TypeId) (hop : o.op = Op.range t mm) {e : TypeId} (ht : Tryz.prog.underlying t = some (.map k e)) 
    (hm : a.eval mm = .map (some m)) (h : MapV K w m s f)
    (hK : ∀ w', RangeV K w' m w.heap.size s f [] s → w.grownBy w' none → wpListIn F n Tryz.prog ops Q rest (a.put o.dst (.pointer (some ⟨w.heap.size, 0, none⟩))) w') :
    wpListIn F n Tryz.prog ops Q (o :: rest) a w := by
  refine wpListIn_plain hg fun K' hK' => ?_
  obtain ⟨w', hrun, r1, r2⟩ := h.range ht
  unfold Oper.wpIn
  refine ⟨?_, ?_⟩
  · simp [Oper.about, hop]
  · rw [Oper.semAt_plain F _ _ (by rw [hop]; intro c hc'; cases hc')]
    simp [execOp, hop, hm, hrun, Result.andThen]
    exact hK' _ _ (hK w' r1 r2)
theorem wpListIn_next_V {F : Fence} {n : Nat} {ops : Array Oper} {rest : List Oper} {o : Oper} {a : Act} {Q : Exit → Act → World → Prop} (hg : o.guard = none) (it : Operand) (hop : o.op = Op.next it false)
    (hit : a.eval it = .pointer (some ⟨r, 0, none⟩)) (h : RangeV K w m r s f vs cnt)
    (hDone : (∀ x, K.wf x → ((f x).isSome = true ↔ x ∈ vs)) → wpListIn F n Tryz.prog ops Q rest (a.put o.dst (.tuple #[.bool false])) w)
    (hMore : ∀ (x : κ) (v : Value) (w' : World) (cnt' : Nat), K.wf x → f x = some v → x ∉ vs → RangeV K w' m r s f (vs ++ [x]) cnt' → cnt' < cnt →
      w.grownBy w' (some r) → w'.heap.size = w.heap.size → (Instr.entry (.pointer (some ⟨r, 0, none⟩))).run Tryz.prog w' = .ok (.tuple #[K.val x, v]) w' → wpListIn F n Tryz.prog ops Q rest (a.put o.dst (.tuple #[.bool true, K.val x, v])) w') :
    wpListIn F n Tryz.prog ops Q (o :: rest) a w := by
  refine wpListIn_plain hg fun K' hK' => ?_
  unfold Oper.wpIn
  refine ⟨by simp [Oper.about, hop], ?_⟩
  rw [Oper.semAt_plain F _ _ (by rw [hop]; intro c hc'; cases hc')]
  rcases h.next o.type with ⟨hd, hrun⟩ | ⟨x, v, w', cnt', h1, h2, h3, hrun, h4, h5, h6, h7, h8⟩
  · simp [execOp, hop, hit, hrun, Result.andThen]
    exact hK' _ _ (hDone hd)
  · simp [execOp, hop, hit, hrun, Result.andThen]
    exact hK' _ _ (hMore x v w' cnt' h1 h2 h3 h4 h5 h6 h7 h8)
end
/-- all keys of a map, each once. -/
def AllK (f : Ky → Option Value) (s : Nat) (ys : List Ky) : Prop := ys.Nodup ∧ (∀ x, kyOk x → ((f x).isSome = true ↔ x ∈ ys)) ∧ (∀ x ∈ ys, kyOk x) ∧ ys.length ≤ s
set_option maxRecDepth 100000 in
set_option maxHeartbeats 2000000 in
theorem keys1_in (n : Nat) (hn : 1 ≤ n) (l Bm m s : Nat) (f : Ky → Option Value) (J Jx : List Ky → World → Prop)
    (hY : ∀ pre x W1, J pre W1 → pre.length < s → YieldAt Fence.wide (n - 1) Tryz.prog l #[kyv x] W1 fun e W' =>
      (e = .returned (.bool true) ∧ J (pre ++ [x]) W' ∧ KeepsWalks W1 W') ∨ (e = .returned (.bool false) ∧ Jx (pre ++ [x]) W'))
    (W : World) (hJ : AbidesFrom W.heap.size J) (hBm : W.cell? ⟨Bm, 0, none⟩ = some (.map (some m))) (hm : MapV kyK W m s f) (h0 : J [] W) :
    CallsIn Fence.wide n Tryz.prog 65 #[.func (.yield l) #[] #[], .pointer (some ⟨Bm, 0, none⟩)] W fun e W' => (∃ v, e = .returned v) ∧
      ((∃ ys, AllK f s ys ∧ J ys W') ∨ (∃ pre, True ∧ Jx pre W')) := by
  refine callsIn_of_wp Tryz.func65 rfl trivial ?_ rfl
  simp only [Tryz.ntmps65, List.size_toArray, List.length_cons, List.length_nil, Nat.reduceAdd, Nat.reduceSub, Array.replicate_succ, Array.replicate_zero, List.push_toArray, List.append_toArray, List.nil_append, List.cons_append]
  gi_wp2_with (first
    | (gi_at_range; refine wpListIn_range_V rfl _ _ rfl Tryz.underlying72 rfl hm ?_; intro w0 hrg0 hg0)
    | gi_in)
  go_frame
  gi_loopw [3] (fun _ wr => ∃ (cnt : Nat) (ss : List Ky), RangeV kyK wr m W.heap.size s f ss cnt ∧ ss.length + cnt ≤ s ∧ J ss wr)
    (fun _ wr => wr.rangeLeft m W.heap.size)
  case atStart => exact ⟨_, [], hrg0, by simp, hJ [] W w0 none h0 hg0 (fun r e => by cases e)⟩
  case round =>
    obtain ⟨cnt, ss, hrg, hcs, hJs⟩ := hrel
    gi_wp2_with (first
      | (gi_at_next; refine wpListIn_next_V rfl _ rfl rfl hrg ?_ ?_)
      | gi_in)
    · intro hd
      gi_wp2
      go_end0
      refine ⟨⟨_, rfl⟩, .inl ⟨ss, ⟨?_, hd, ?_, by omega⟩, hJs⟩⟩
      · obtain ⟨D, left, h1, h2, h3, h4, h5, h6⟩ := hrg; exact h4
      · obtain ⟨D, left, h1, h2, h3, h4, h5, h6⟩ := hrg; exact fun x hx => (h5 x hx).1
    · intro x v w2 cnt2 hx hf hnin hrg2 hlt hg2 hs2 hen
      rw [show kyK.val x = .agg #[.int .i64 x.rule, .int .i64 x.level, .int .i64 x.place] from rfl]
      replace hen : (Instr.entry (.pointer (some ⟨W.heap.size, 0, none⟩))).run Tryz.prog w2 = .ok (.tuple #[.agg #[.int .i64 x.rule, .int .i64 x.level, .int .i64 x.place], v]) w2 := hen
      have hJ1 : J ss w2 := hJ ss wr w2 (some W.heap.size) hJs hg2 (fun r e => by cases e; obtain ⟨a, b, c, h⟩ := hrg.iter; exact ⟨Nat.le_refl _, _, h, rfl⟩)
      have hJ2 : J ss (w2.alloc (.cells #[.int .i64 x.rule, .int .i64 x.level, .int .i64 x.place] 24)) := hJ _ _ _ none hJ1 (World.grownBy_alloc _ _ _) (fun r e => by cases e)
      obtain ⟨fn, tmps, assign, body, hy, hR⟩ := hY _ x _ hJ2 (by omega)
      clear hs2
      gi_wp2
      refine hR.mono ?_
      rintro e W3 (⟨rfl, hJ3, hk3⟩ | ⟨rfl, hJx3⟩)
      · gi_wp2
        have hrg3 := (hrg2.alloc _).walks hk3
        go_roundw
        case rel => exact ⟨cnt2, ss ++ [x], hrg3, by simp; omega, hJ3⟩
        case measure => rw [hrg3.left_eq, hrg.left_eq]; exact hlt
      · gi_wp2
        refine bodyPost_ret (results_none rfl _ _ _) rfl ?_
        exact ⟨⟨_, rfl⟩, .inr ⟨_, trivial, hJx3⟩⟩
theorem keys_stops (n : Nat) (hn : 1 ≤ n) (Bm m s : Nat) (f : Ky → Option Value) (w : World) (hBm : Bm < w.heap.size) (hc : w.cell? ⟨Bm, 0, none⟩ = some (.map (some m))) (hm : MapV kyK w m s f) :
    SeqStopsK Fence.wide n Tryz.prog 65 #[.pointer (some ⟨Bm, 0, none⟩)] (fun x : Ky => #[kyv x]) KeepsWalks (fun ys => AllK f s ys) (fun _ => True) s w := fun l J Jx W hW hJ _ hY h0 =>
  keys1_in n hn l Bm m s f J Jx hY W hJ ((hW.cell (p := ⟨Bm, 0, none⟩) hBm).trans hc) (hm.later hW) h0
set_option maxHeartbeats 1000000 in
theorem mkeys_any (m : Nat) (w : World) :
    Calls Tryz.prog 49 #[.map (some m)] w fun e w' => e = .returned (.func (.func 65) #[] #[.pointer (some ⟨w.heap.size, 0, none⟩)]) ∧ w' = w.alloc (.cells #[.map (some m)] 72) := by
  go_enter Tryz.func49, Tryz.ntmps49
  go_wp2
  go_ret
  exact ⟨rfl, rfl⟩
end Go.Proofs.YtpchjpmkkiopiaaGreat
namespace Go.Proofs.YtpchjpmkkiopiaaGreat
open Go.RowKit Go.Shelf
attribute [local go_sem] Oper.semAt_some

theorem Tryz.infoKy : (Tryz.prog.info? 24).map (fun i => (i.zero, i.size, i.bytes)) = some (some (.agg #[.int .i64 0, .int .i64 0, .int .i64 0]), 3, 24) := by kernel_rfl
theorem kyc_len (p : Ky) : (kyc p).length = 3 := rfl
theorem kbox3_own {β : Type} (B : Nat) (t : TypeId) (f : β → Array Value) : Own (fun s W => W.heap[B]? = some (.cells (f s) t (0, 0))) := fun s X Y row hs hg hrow =>
  (hg.block B (lt_of_block hs) (fun e => by obtain ⟨o, ho, hc⟩ := hrow B e.symm; rw [hs] at ho; cases ho; cases hc)).trans hs
set_option maxRecDepth 100000 in
set_option maxHeartbeats 4000000 in
theorem appendSeq_in (n : Nat) (hn : 3 ≤ n) (Bs m s : Nat) (f : Ky → Option Value) (hle : s ≤ 100000) (w : World) (hBs : w.cell? ⟨Bs, 0, none⟩ = some (.map (some m))) (hm : MapV kyK w m s f) :
    CallsIn Fence.wide n Tryz.prog 75 #[.slice none 0 0, .func (.func 65) #[] #[.pointer (some ⟨Bs, 0, none⟩)]] w fun e W' =>
      ∃ v ys, e = .returned v ∧ AllK f s ys ∧ W'.ownsRow w.heap.size 24 3 v ys.length (ys.flatMap kyc) ∧ Below w.heap.size w W' := by
  have h1 : 1 ≤ n := by omega
  obtain ⟨i0, hi, hz0, hz1, hz2⟩ := info_parts Tryz.infoKy
  have hBl : Bs < w.heap.size := World.block_lt_of_cell? (a := ⟨Bs, 0, none⟩) _ hBs
  refine callsIn_of_wp_marks Tryz.func75 rfl trivial ?_ rfl
  simp only [Tryz.ntmps75, List.size_toArray, List.length_cons, List.length_nil, Nat.reduceAdd, Nat.reduceSub, Array.replicate_succ, Array.replicate_zero, List.push_toArray, List.append_toArray, List.nil_append, List.cons_append]
  gi_wp2
  have bO := Boxed.new w 50 (.slice none 0 0)
  have hB0 : Below w.heap.size w (w.alloc (.cells #[.slice none 0 0] 50)) := (Below.refl _ w).alloc (Nat.le_refl _) _
  refine wpIn_rangeFunc_ownH rfl h1 (gf := 65) (lb := #[.pointer (some ⟨Bs, 0, none⟩)]) rfl trivial (enters_of Tryz.func65 (by kernel_rfl) rfl)
    (keys_stops (n - 1) (by omega) Bs m s f _ (by simp; omega) ((hB0.cell (p := ⟨Bs, 0, none⟩) hBl).trans hBs) (hm.later hB0)) walksK_t walksK_b (Below.refl _ _) (fun _ => rfl)
    (fun pre W => (∃ v, Boxed W w.heap.size 50 v ∧ W.ownsRow w.heap.size 24 3 v pre.length (pre.flatMap kyc) ∧ (v = .slice none 0 0 ↔ pre = [])) ∧ Below w.heap.size w W)
    (fun _ _ _ => False)
    (OwnFrom.and (Own.from (holdsRow_own w.heap.size w.heap.size 50 24 3 (fun pre : List Ky => pre.length) (fun pre => pre.flatMap kyc) (fun pre v => v = .slice none 0 0 ↔ pre = [])) _) (ownFrom_below (Nat.le_refl _) (by simp)))
    (fun _ _ _ _ _ hs _ _ => hs)
    ⟨⟨_, bO, World.ownsRow_nil _ _ _ _, by simp⟩, hB0⟩
    (fun x a' W => ∃ Bx, W.heap[Bx]? = some (.cells #[.int .i64 x.rule, .int .i64 x.level, .int .i64 x.place] 24 (0, 0)) ∧ a' = { tmps := #[.slice none 0 0, .func (.func 65) #[] #[.pointer (some ⟨Bs, 0, none⟩)], .pointer (some ⟨w.heap.size, 0, none⟩), undef, .slice none 0 0, .pointer (some ⟨Bx, 0, none⟩), .func (.func 65) #[] #[.pointer (some ⟨Bs, 0, none⟩)], kyv x, undef, undef, undef, undef, undef], defers := [] })
    (fun x a' => Own.from (fun s X Y row hs hg hrow => by
      obtain ⟨Bx, h1, h2⟩ := hs
      exact ⟨Bx, kbox3_own Bx 24 (fun _ : Unit => #[.int .i64 x.rule, .int .i64 x.level, .int .i64 x.place]) () X Y row h1 hg hrow, h2⟩) _)
    ?assign ?body ?done ?stop
  case assign =>
    rintro l pre x W K ⟨⟨v, hv, hrow, hnil⟩, hB⟩ hK
    gi_wp2
    exact hK _ _ ((KeepsOthers.alloc _ _).from _) (KeepsWalks.alloc W _) ⟨⟨v, hv.alloc _, hrow.alloc _, hnil⟩, hB.alloc hB.size _⟩ ⟨W.heap.size, heap_alloc_new W _, rfl⟩
  case body =>
    rintro l pre x a' W hl - ⟨⟨v, hv, hrow, hnil⟩, hB⟩ ⟨Bx, hx, rfl⟩ hlt
    have hc := hv.cell
    obtain ⟨y0, y1, y2, -⟩ := three_box hx
    gi_wp2_with (gi_at_builtin; refine wpListIn_append_own _ rfl _ _ 50 rfl w.heap.size 24 i0 _ 3 24 Tryz.underlying50 hi hz0 hz1 hz2 rfl (by decide) _ _ _ rfl (hrow.alloc _) ⟨W.heap.size, 0, none⟩ 1 1 [.int .i64 x.rule, .int .i64 x.level, .int .i64 x.place] rfl rfl (World.news_of_block (cs := #[.int .i64 x.rule, .int .i64 x.level, .int .i64 x.place]) (t := 24) (fr := (0, 0)) (heap_alloc_new W _)) (by simp [Value.oneCell']) (by unfold maxLen; omega) (by omega) (by have := hB.size; simp; omega) ?_; intro v' w1 hown' hgrow _; obtain ⟨g', cap', rfl⟩ := own_shape hown' (by omega); obtain ⟨hv1, hv2, hr2, hk2, hb2⟩ := hv.appended (by decide) hrow hB.size (Nat.le_refl _) hown' hgrow; have hc1 := hv1.cell; have hf1 := hv1.frozen)
    exact ⟨hk2.from _, hk2.walks, ⟨_, hv2, by rw [List.length_append, List.flatMap_append]; simpa [kyc] using hr2, by simp⟩, hB.trans hb2⟩
  case done =>
    rintro D ys W hD hys ⟨⟨v, hv, hrow, hnil⟩, hB⟩ hK
    have hc := hv.cell
    gi_wp2
    refine ⟨by simp, .inl ⟨_, _, rfl, run_takeDeferred hK, ?_⟩⟩
    exact ⟨_, results_tmp rfl _ _ _, v, ys, rfl, hys, ownsRow_putObj hrow _ hK rfl, hB.trans (belowK_b (w := w) (Nat.le_refl _) W D _ _ (by simp at hD; omega) hK rfl rfl)⟩
  case stop =>
    rintro D c pre W _ _ h _
    exact h.elim
set_option maxHeartbeats 1000000 in
theorem collect_any (Bs m s : Nat) (f : Ky → Option Value) (hle : s ≤ 100000) (w : World) (hBs : w.cell? ⟨Bs, 0, none⟩ = some (.map (some m))) (hm : MapV kyK w m s f) :
    Calls Tryz.prog 63 #[.func (.func 65) #[] #[.pointer (some ⟨Bs, 0, none⟩)]] w fun e W' =>
      ∃ v ys, e = .returned v ∧ AllK f s ys ∧ W'.ownsRow w.heap.size 24 3 v ys.length (ys.flatMap kyc) ∧ Below w.heap.size w W' := by
  have HA := Lib.hid (callsIn_wide.1 (appendSeq_in 3 (by omega) Bs m s f hle w hBs hm))
  clear hBs hm
  go_enter Tryz.func63, Tryz.ntmps63
  go_wp2_with fail
  refine HA.out.mono ?_
  rintro e w1 ⟨v, ys, rfl, hE⟩
  have HE := Lib.hid hE
  clear hE
  go_wp2
  go_ret
  exact ⟨v, ys, rfl, HE.out⟩
end Go.Proofs.YtpchjpmkkiopiaaGreat
