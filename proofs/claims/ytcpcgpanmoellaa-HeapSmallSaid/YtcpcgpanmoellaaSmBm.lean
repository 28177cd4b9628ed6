import Derived.Test.YtcpcgpanmoellaaHdAm
import Derived.Deep.QuietTactic
import Derived.BigQuiet
import Derived.Deep.Onto
import Derived.StillTailTactics
namespace Go.Proofs.Ytcpcgpanmoellaa
open Go.RowKit Go.Shelf

section
variable {P : Program} {ops : Array Oper} {md : Region.Mode} {C : World → Prop}
theorem wpIn_of_quiet {n l : Nat} {o : Oper} {a : Act} {K : Act → Prop} {K' : Act → World → Prop} {Q' : Exit → Act → World → Prop} {w : World} (hd : ∀ c, o.op ≠ .defer c) (hw : C w) (h : ∀ a w', C w' → K a → K' a w') (hh : o.quiet P a C K) :
    o.wpIn (Fence.wide.inRound l) n P a w K' Q' := by
  refine ⟨fun _ _ => trivial, ?_⟩
  rw [show (Fence.wide.inRound l).round = some l from rfl, Oper.semAt_some l _ _ hd]
  obtain ⟨v, h1, h2⟩ := hh
  have h3 := h1 w hw
  unfold Oper.quietAt at h3
  generalize (execOp a.eval o).run P w = r at *
  cases r with
  | ok n w' =>
    cases n <;> simp only [Oper.quietUpon] at h3 <;> simp only [Oper.uponIn]
    case value u =>
      obtain ⟨e1, e2⟩ := h3
      rw [e1, e2]
      exact h _ _ hw h2
    case skip =>
      obtain ⟨e1, e2⟩ := h3
      rw [e1, ← e2]
      exact h _ _ hw h2
    case enter f args =>
      obtain ⟨e1, hc⟩ := h3
      rw [e1]
      exact ⟨fun h => by simp [Fence.wide, Fence.inRound] at h, (CallsIn.inRound l (callsIn_wide.2 hc)).mono fun e w'' ⟨he, hw''⟩ => by subst he; exact h _ _ hw'' h2⟩
  | halt x w' => simp only [Oper.quietUpon] at h3

def noDefer (ops : Array Oper) : Bool := ops.all fun o => match o.op with | .defer _ => false | _ => true
theorem noDefer_spec {ops : Array Oper} (h : noDefer ops = true) {i : Nat} {o : Oper} (hi : ops[i]? = some o) : ∀ c, o.op ≠ .defer c := by
  intro c hc
  unfold noDefer at h
  rw [Array.all_eq_true] at h
  obtain ⟨hl, rfl⟩ := Array.getElem?_eq_some_iff.1 hi
  have := h i hl
  rw [hc] at this
  simp at this

theorem wpOpIn_of_qOp {n l i : Nat} {a : Act} {K : Act → Prop} {K' : Act → World → Prop} {Q' : Exit → Act → World → Prop} {w : World} (hd : noDefer ops = true) (hC : C w) (h : ∀ a w', C w' → K a → K' a w') (hh : qOp P ops C i K a) :
    wpOpIn (Fence.wide.inRound l) n P ops Q' i K' a w := by
  unfold qOp at hh
  unfold wpOpIn
  split
  · rename_i ho; simp only [ho] at hh; exact h _ _ hC hh
  · rename_i o ho
    simp only [ho] at hh
    split
    · rename_i hw; simp only [hw, if_true] at hh; exact wpIn_of_quiet (noDefer_spec hd ho) hC h hh
    · rename_i hw; simp only [hw] at hh; exact ⟨fun _ _ => trivial, h _ _ hC hh⟩

theorem wpAnyIn_of_quiet {n l : Nat} {Q : Act → Prop} {Q' : Exit → Act → World → Prop} (hd : noDefer ops = true) (hQ : ∀ a w, C w → Q a → Q' .normal a w) : ∀ (fuel : Nat) (listed : Array Bool) (a : Act) (w : World), C w →
    wpAnyQ P md ops C Q fuel listed a → wpAnyIn (Fence.wide.inRound l) n P md ops Q' fuel listed a w
  | 0, _, _, _, hw, h => ⟨h.1, hQ _ _ hw h.2⟩
  | fuel + 1, _, _, _, hw, h => ⟨fun h0 => hQ _ _ hw (h.1 h0), fun i hi => wpOpIn_of_qOp hd hw (fun a' w' hw' => wpAnyIn_of_quiet hd hQ fuel _ a' w' hw') (h.2 i hi)⟩

theorem wpIn_region_quiet {n l id : Nat} {Q : Exit → Act → World → Prop} {a : Act} {w : World} (hm : P.follows .mixedOrders = true) (hB : Region.lexB .any ops = true) (hd : noDefer ops = true) (hC : C { w with drawn := w.drawn + 1 })
    (h : wpQuiet P ops C (fun a' => ∀ w', C w' → Q .normal a' w') ops.toList a) : (Code.region id ops true).wpIn (Fence.wide.inRound l) n P Q a w := by
  simp only [Region.lexB, Bool.and_eq_true] at hB
  refine wpIn_region_any hm (wpAnyIn_of_quiet hd (Q := fun a' => ∀ w', C w' → Q .normal a' w') (fun _ w' hw' h => h w' hw') _ _ _ _ hC ?_)
  have := wpAnyQ_lex (C := C) (md := .any) hB.1 ops.toList 0 (Array.replicate ops.size false) a (by simp) (by simpa using hB.2) h
  simpa using this

theorem wpIn_region_quiet_lit {n m id : Nat} {Q : Exit → Act → World → Prop} {a : Act} {w : World} {l : List Oper} (hm : P.follows .mixedOrders = true) (hB : Region.lexB .any l.toArray = true) (hd : noDefer l.toArray = true)
    (h : wpQuiet P l.toArray (fun w' => ∃ n, w' = w.drewN n) (fun a' => ∀ w', (∃ n, w' = w.drewN n) → Q .normal a' w') l a) : (Code.region id l.toArray true).wpIn (Fence.wide.inRound m) n P Q a w :=
  wpIn_region_quiet (C := fun w' => ∃ n, w' = w.drewN n) hm hB hd ⟨1, rfl⟩ (by simpa using h)
end
end Go.Proofs.Ytcpcgpanmoellaa
namespace Go.Proofs.Ytcpcgpanmoellaa
open Go.RowKit Go.Lib Go.Shelf

/-- what First answers. -/
def FirstP (M : List En) (k n : Int) (b : Bool) : Prop := (M = [] ∧ k = 0 ∧ n = 0 ∧ b = false) ∨ ∃ e, FirstN M e ∧ k = e.key ∧ n = e.name ∧ b = true
theorem firstP_ex (M : List En) : ∃ k n b, FirstP M k n b := by
  by_cases h : M = []
  · exact ⟨_, _, _, .inl ⟨h, rfl, rfl, rfl⟩⟩
  · obtain ⟨e, he⟩ := first_ex h
    exact ⟨_, _, _, .inr ⟨e, he, rfl, rfl, rfl⟩⟩
theorem quFirstP [Watch] {base : Nat} {q : Nat} {t : Int} {M : List En} {k n : Int} {b : Bool} (w : World) (h : Qu base w q t M) (hf : FirstP M k n b) :
    Calls Try.prog 28 #[.pointer (some ⟨q, 0, none⟩)] w fun en w' => en = .returned (.tuple #[.agg #[.int .i64 k, .int .i64 n], .bool b]) ∧ Below w.heap.size w w' := by
  rcases hf with ⟨rfl, rfl, rfl, rfl⟩ | ⟨e, he, rfl, rfl, rfl⟩
  · exact quFirst0 w h
  · obtain ⟨e2, h2, h3⟩ := quFirst w h (fun h0 => by rw [h0] at he; exact absurd he.1 (by simp))
    rw [first_one h.trn he h2]
    exact h3
theorem rFirstP {base r : Nat} {v : Value} {t : Int} {M : List En} {k n : Int} {b : Bool} (w : World) (h : Rq base w r v M) (ht : Trn t M) (hf : FirstP M k n b) :
    Calls Try.prog 41 #[.pointer (some ⟨r, 0, none⟩)] w fun en w' => en = .returned (.tuple #[.agg #[.int .i64 k, .int .i64 n], .bool b]) ∧ Below w.heap.size w w' := by
  rcases hf with ⟨rfl, rfl, rfl, rfl⟩ | ⟨e, he, rfl, rfl, rfl⟩
  · exact rFirst0 w h
  · exact rFirst w h ht he
theorem takeAll_len : ∀ (n : Nat) (M out : List En), takeAll n M out → out.length = n
  | 0, M, out, h => by rw [h.2]; rfl
  | n + 1, M, out, ⟨e, r, _, h1, h2⟩ => by rw [h1, List.length_cons, takeAll_len n _ _ h2]
/-- a thing without its turn. -/
def kn (e : En) : Int × Int := (e.key, e.name)
/-- the walk's own boxes. -/
structure SmS (w0 : World) (LB NB n : Nat) (vo : Value) (out : List En) (w : World) : Prop where
  pR : w.heap[w0.heap.size]? = some (.cells #[.bool false] 4 (0, 0))
  pL : w.heap[LB]? = some (.cells #[vo] 47 (0, 0))
  pN : w.heap[NB]? = some (.cells #[.int .i64 n] 3 (0, 0))
  row : w.ownsRow w0.heap.size 79 2 vo out.length (out.flatMap it2)
  bel : Below w0.heap.size w0 w
theorem SmS.nL {w0 : World} {LB NB n : Nat} {vo : Value} {out : List En} {w : World} (h : SmS w0 LB NB n vo out w) : NB ≠ LB := fun e => by
  have := h.pN
  rw [e, h.pL] at this
  simp at this
theorem SmS.nR {w0 : World} {LB NB n : Nat} {vo : Value} {out : List En} {w : World} (h : SmS w0 LB NB n vo out w) : NB ≠ w0.heap.size := fun e => by
  have := h.pN
  rw [e, h.pR] at this
  simp at this
theorem SmS.nG {w0 : World} {LB NB n : Nat} {vo : Value} {out : List En} {w : World} (h : SmS w0 LB NB n vo out w) : vo.ownBlock ≠ some NB := fun e => by
  obtain ⟨cs, h1⟩ := own_typed h.row e
  rw [h.pN] at h1
  simp at h1
theorem SmS.later {w0 : World} {LB NB n : Nat} {vo : Value} {out : List En} {w w' : World} (h : SmS w0 LB NB n vo out w) (hb : Below w.heap.size w w') : SmS w0 LB NB n vo out w' :=
  ⟨(hb.block _ (lt_of_block h.pR)).trans h.pR, (hb.block _ (lt_of_block h.pL)).trans h.pL, (hb.block _ (lt_of_block h.pN)).trans h.pN, row_kept (S := fun _ => False) h.row (Keeps.ofNew hb _) (fun _ _ _ h => h), h.bel.trans (hb.mono h.bel.size)⟩
theorem SmS.put {w0 : World} {LB NB n : Nat} {vo : Value} {out : List En} {w : World} (h : SmS w0 LB NB n vo out w) (hlt : w0.heap.size ≤ NB) (m : Nat) : SmS w0 LB NB m vo out (w.setCell ⟨NB, 0, none⟩ (.int .i64 m)) := by
  have hk : Keeps (fun k => k = NB) w (w.setCell ⟨NB, 0, none⟩ (.int .i64 m)) := ⟨rfl, rfl, rfl, by simp [World.setCell], fun k _ hk => Below.heap_setCell _ _ _ _ (fun e => hk e)⟩
  refine ⟨hk.obj h.pR (fun e => h.nR e.symm), hk.obj h.pL (fun e => h.nL e.symm), ?_, row_kept h.row hk (fun k cs hc e => ?_), h.bel.setCell (p := ⟨NB, 0, none⟩) hlt _⟩
  · rw [block_setCell' h.pN]; rfl
  · rw [e, h.pN] at hc; simp at hc
theorem own_SmS {β : Type} {w0 : World} {LB NB : Nat} {vo : Value} {out : List En} {B : Nat} (hB : w0.heap.size ≤ B) (f : β → Nat) : OwnFrom B (fun (s : β) W => SmS w0 LB NB (f s) vo out W) := fun s A C row h' hg hr => by
  have h : SmS w0 LB NB (f s) vo out A := h'
  show SmS w0 LB NB (f s) vo out C
  have hk : ∀ (k : Nat) (cs : Array Value) (t : TypeId) (fr : Nat × Nat), A.heap[k]? = some (.cells cs t fr) → C.heap[k]? = some (.cells cs t fr) := fun k cs t fr hc => (hg.block k (lt_of_block hc) (fun e => by obtain ⟨-, o, ho, h2⟩ := hr k e.symm; rw [hc] at ho; cases ho; cases h2)).trans hc
  refine ⟨hk _ _ _ _ h.pR, hk _ _ _ _ h.pL, hk _ _ _ _ h.pN, h.row.kept hg ?_, h.bel.grown hg (Nat.le_trans (Nat.le_refl _) h.bel.size) (fun k e => Nat.le_trans hB (hr k e).1)⟩
  rcases h.row.2 with ⟨e1, _⟩ | ⟨g, cap, cur, e1, _, hgb, _⟩
  · exact .inl (by rw [e1]; rfl)
  · refine .inr fun e' => ?_
    rw [e1] at e'
    obtain ⟨-, o, ho, hc⟩ := hr g (by simpa [Value.ownBlock] using e'.symm)
    rw [hgb] at ho; cases ho; cases hc
theorem kpE_put {X : Nat → Prop} {W : World} {n b : Nat} {cs : Array Value} {t : TypeId} {fr : Nat × Nat} (v : Value) (h : W.heap[b]? = some (.cells cs t fr)) (ht : t ≠ 67) : KpE X W ((W.drewN n).setCell ⟨b, 0, none⟩ v) :=
  ⟨by simp [World.setCell], fun k cs' fr' _ ho => (Below.heap_setCell _ _ _ _ (fun e => by
    have e' : k = b := e
    rw [e', h] at ho
    simp at ho
    exact ht ho.2.1)).trans ho⟩
theorem keepsFrom_put {B : Nat} (W : World) (n : Nat) (p : Addr) (v : Value) : KeepsFrom B W ((W.drewN n).setCell p v) :=
  have h := (KeepsOthers.setCell (W.drewN n) p v).from B
  ⟨h.size, h.same⟩
end Go.Proofs.Ytcpcgpanmoellaa
namespace Go.Proofs.Ytcpcgpanmoellaa
open Go.RowKit Go.Lib Go.Shelf
attribute [local go_sem] Oper.semAt_some

set_option maxRecDepth 100000 in
set_option maxHeartbeats 8000000 in
theorem same_any {B q r : Nat} {w0 : World} {t : Int} {M : List En} (x : Int) (W : World) (h : Two B q r w0 W t M t M) (hx : (kx x).wf = true) :
    Calls Try.prog 21 #[.pointer (some ⟨q, 0, none⟩), .pointer (some ⟨r, 0, none⟩), .int .i64 x] W fun e w' => e = .returned (.bool true) ∧ Below W.heap.size W w' := by
  obtain ⟨v, hv, -⟩ := h.rq
  obtain ⟨k, n, b, hf⟩ := firstP_ex M
  have HF := Lib.hid hf
  have HQ := Lib.hid h.qu
  have HR := Lib.hid hv
  have HX := Lib.hid hx
  obtain ⟨vao, vcap, rfl⟩ := own_val hv.row
  clear h hv hf hx
  refine (callsIn_wide (n := 9)).1 ?_
  refine callsIn_of_wp_marks Try.func21 rfl trivial ?_ rfl
  simp only [Try.ntmps21, List.size_toArray, List.length_cons, List.length_nil, Nat.reduceAdd, Nat.reduceSub, Array.replicate_succ, Array.replicate_zero, List.push_toArray, List.append_toArray, List.nil_append, List.cons_append]
  refine wpIn_wide.2 (wp_mono (Q := noPanic (bodyPostM Fence.wide 9 Try.prog Try.f21 fun e w' => e = .returned (.bool true) ∧ Below W.heap.size W w')) ?_ (fun e a w h => noPanic_of h))
  go_upto_region 1 with (fail)
  refine gen_world (S := fun u => Below W.heap.size W u ∧ Boxed u W.heap.size 4 (.bool false)) (one_new W _) (fun u hu => ?_)
  have HU := Lib.hid hu
  have HFq := Lib.hid (quFirstP u (HQ.out.later hu.1) HF.out)
  clear hu
  go_wp2_with fail
  refine HFq.out.mono ?_
  rintro e u1 ⟨rfl, hb1⟩
  have HU1 := Lib.hid (show Below W.heap.size W u1 ∧ Boxed u1 W.heap.size 4 (.bool false) from ⟨HU.out.1.trans (hb1.mono HU.out.1.size), (hb1.block _ (lt_of_block HU.out.2)).trans HU.out.2⟩)
  clear hb1 HU HFq
  go_upto_region 2 with (fail)
  refine gen_world (S := fun u => Below u1.heap.size u1 u ∧ u.heap[u1.heap.size]? = some (.cells #[.int .i64 k, .int .i64 n] 30 (0, 0))) (one_new u1 _) (fun u2 hu2 => ?_)
  obtain ⟨hb2, hx2⟩ := hu2
  have HU2 := Lib.hid (show Below W.heap.size W u2 ∧ Boxed u2 W.heap.size 4 (.bool false) from ⟨HU1.out.1.trans (hb2.mono HU1.out.1.size), (hb2.block _ (lt_of_block HU1.out.2)).trans HU1.out.2⟩)
  have HX2 := Lib.hid hx2
  obtain ⟨X, hX⟩ : ∃ X, X = u1.heap.size := ⟨_, rfl⟩
  rw [← hX] at HX2 ⊢
  have HTr := Lib.hid HQ.out.trn
  have HFr := Lib.hid (rFirstP u2 (HR.out.later HU2.out.1) HTr.out HF.out)
  clear hb2 hx2 hX HU1 u1
  go_wp2_with fail
  refine HFr.out.mono ?_
  rintro e u3 ⟨rfl, hb3⟩
  have HU3 := Lib.hid (show Below W.heap.size W u3 ∧ Boxed u3 W.heap.size 4 (.bool false) from ⟨HU2.out.1.trans (hb3.mono HU2.out.1.size), (hb3.block _ (lt_of_block HU2.out.2)).trans HU2.out.2⟩)
  have HX3 := Lib.hid ((hb3.block _ (lt_of_block HX2.out)).trans HX2.out)
  clear hb3 HU2 HX2 HFr
  go_upto_region 3 with (fail)
  refine gen_world (S := fun u => Below u3.heap.size u3 u ∧ u.heap[u3.heap.size]? = some (.cells #[.int .i64 k, .int .i64 n] 79 (0, 0))) (one_new u3 _) (fun u4 hu4 => ?_)
  obtain ⟨hb4, hx4⟩ := hu4
  have HU4 := Lib.hid (show Below W.heap.size W u4 ∧ Boxed u4 W.heap.size 4 (.bool false) from ⟨HU3.out.1.trans (hb4.mono HU3.out.1.size), (hb4.block _ (lt_of_block HU3.out.2)).trans HU3.out.2⟩)
  have HX4 := Lib.hid ((hb4.block _ (lt_of_block HX3.out)).trans HX3.out)
  have HY4 := Lib.hid hx4
  obtain ⟨Y, hY⟩ : ∃ Y, Y = u3.heap.size := ⟨_, rfl⟩
  rw [← hY] at HY4 ⊢
  clear hb4 hx4 hY HU3 HX3 u2 u3
  have HKq := Lib.hid (quKey x u4 (HQ.out.later HU4.out.1) HX.out)
  have HKr := Lib.hid (rKey x u4 (HR.out.later HU4.out.1) HTr.out.once)
  have HLn := Lib.hid (fun m => quLen (u4.drewN m) (HQ.out.later (below_draws HU4.out.1 m)))
  go_wp2_with fail
  refine HKq.out.mono ?_
  rintro e u5 ⟨rfl, rfl⟩
  go_wp2_with fail
  refine HKr.out.mono ?_
  rintro e u5 ⟨rfl, rfl⟩
  obtain ⟨x0, x1⟩ := two_box HX4.out
  obtain ⟨y0, y1⟩ := two_box HY4.out
  have r0 := (block_cell' (HR.out.later HU4.out.1).blk 0).1
  simp only [List.getElem?_toArray, List.getElem?_cons_zero] at r0
  go_upto_region 5 with (fail)
  go_big_quiet (first | (go_at_call 15; exact Calls.quiet_of_same ((HLn.out _).mono fun e w' h => ⟨h.1, h.2.symm⟩)))
  have HU6 := Lib.hid (show Below W.heap.size W (u4.drewN nq) ∧ Boxed (u4.drewN nq) W.heap.size 4 (.bool false) from ⟨below_draws HU4.out.1 nq, HU4.out.2⟩)
  generalize u4.drewN nq = u6 at HU6 ⊢
  clear x0 x1 y0 y1 r0 HKq HKr HLn HX4 HY4 HU4
  have HAl := Lib.hid (rAll u6 (HR.out.later HU6.out.1) HTr.out)
  go_wp2_with fail
  refine HAl.out.mono ?_
  rintro e u7 ⟨vo, out, rfl, hrow, hta, hb7⟩
  have HRow := Lib.hid (show u7.ownsRow W.heap.size 79 2 vo out.length (out.flatMap it2) from hrow.mono HU6.out.1.size)
  have HTa := Lib.hid hta
  have HU7 := Lib.hid (show Below W.heap.size W u7 ∧ Boxed u7 W.heap.size 4 (.bool false) from ⟨HU6.out.1.trans (hb7.mono HU6.out.1.size), (hb7.block _ (lt_of_block HU6.out.2)).trans HU6.out.2⟩)
  obtain ⟨ao, cap, rfl⟩ := own_val hrow
  clear hrow hta hb7 HU6 HAl
  go_upto_region 8 with (fail)
  refine gen_world (S := fun u => Below u7.heap.size u7 u ∧ Boxed u u7.heap.size 47 (.slice ao out.length cap)) (one_new u7 _) (fun u8 hu8 => ?_)
  obtain ⟨LB, hLB⟩ : ∃ LB, LB = u7.heap.size := ⟨_, rfl⟩
  have hal : Below u8.heap.size u8 (u8.alloc (.cells #[.int .i64 ((0 : Nat) : Int)] 3)) := (Below.refl _ _).alloc (Nat.le_refl _) _
  have hsm : SmS W LB u8.heap.size 0 (.slice ao out.length cap) out (u8.alloc (.cells #[.int .i64 ((0 : Nat) : Int)] 3)) := by
    obtain ⟨h1, h2⟩ := hu8
    have h3 : Below u7.heap.size u7 (u8.alloc (.cells #[.int .i64 ((0 : Nat) : Int)] 3)) := h1.trans (hal.mono h1.size)
    exact ⟨(h3.block _ (lt_of_block HU7.out.2)).trans HU7.out.2, by rw [hLB]; exact (hal.block _ h2.lt).trans h2, heap_alloc_new u8 _, row_kept (S := fun _ => False) HRow.out (Keeps.ofNew h3 _) (fun _ _ _ h => h), HU7.out.1.trans (h3.mono HU7.out.1.size)⟩
  have HSm := Lib.hid hsm
  obtain ⟨NB, hNB⟩ : ∃ NB, NB = u8.heap.size := ⟨_, rfl⟩
  rw [← hNB] at HSm
  rw [← hLB]
  clear hLB hal hsm hu8 HU7 HRow
  go_wp2_with fail
  rw [← hNB]
  have HNl := Lib.hid (show W.heap.size ≤ NB from HSm.out.bel.size |> fun h => by
    have := lt_of_block HSm.out.pR
    simp at this
    omega)
  generalize u8.alloc (.cells #[.int .i64 ((0 : Nat) : Int)] 3) = u9 at HSm ⊢
  clear hNB
  refine (qAll_any _ _).mono ?_
  rintro e w9 ⟨rfl, rfl⟩
  have hal := (Below.refl u9.heap.size u9).alloc (Nat.le_refl _) (.cells #[.pointer (some ⟨q, 0, none⟩)] 24)
  have HS9 := Lib.hid (HSm.out.later hal)
  have HBq := Lib.hid (heap_alloc_new u9 (.cells #[.pointer (some ⟨q, 0, none⟩)] 24))
  clear hal HSm
  go_wp2_with fail
  obtain ⟨Bq, hBqE⟩ : ∃ Bq, Bq = u9.heap.size := ⟨_, rfl⟩
  rw [← hBqE] at HBq ⊢
  clear hBqE
  generalize u9.alloc (.cells #[.pointer (some ⟨q, 0, none⟩)] 24) = w9 at HS9 HBq ⊢
  have hs9 := HS9.out.bel.size
  have hNl := lt_of_block HS9.out.pN
  have HLn := Lib.hid (takeAll_len _ _ _ HTa.out)
  refine (wpIn_wide (n := 9)).1 ?_
  refine range_box (by omega) (gf := 31) (lb := #[.pointer (some ⟨Bq, 0, none⟩)]) rfl (enters_of Try.func31 (by kernel_rfl) rfl) itv (fun x => #[.int .i64 x.key, .int .i64 x.name]) 30 17
    (qall_stops 8 (by omega) Bq B q t M (fun _ => False) w9 24 (fun _ h => h.elim) HBq.out (HQ.out.later HS9.out.bel))
    KpE.trans kpE_b
    (fun pre W' => pre.map kn = (out.map kn).take pre.length ∧ SmS W LB NB pre.length (.slice ao out.length cap) out W')
    (fun c pre _ => c = .ret ∧ pre.map kn ≠ (out.map kn).take pre.length)
    (fun s A C row h hg hr => ⟨h.1, own_SmS (β := List En) (B := w9.heap.size) (by omega) List.length s A C row h.2 hg hr⟩)
    (fun _ _ _ _ _ hs _ _ => hs)
    ⟨rfl, HS9.out⟩ ?assign ?body ?done ?stop
  case assign =>
    rintro l pre y W' K ⟨hp, hsb⟩ hK
    simp only [List.setIfInBounds_toArray, List.set_cons_zero, List.set_cons_succ] at hK ⊢
    gi_wp2
    exact hK _ W'.heap.size ((KeepsOthers.alloc _ _).from _) (KpE.ofBelow ((Below.refl _ _).alloc (Nat.le_refl _) _)) ⟨hp, hsb.later ((Below.refl _ _).alloc (Nat.le_refl _) _)⟩ (heap_alloc_new W' _)
  case body =>
    rintro l pre y By W' hl ⟨hp, hsb⟩ hy hlen
    simp only [List.setIfInBounds_toArray, List.set_cons_zero, List.set_cons_succ]
    rw [← HLn.out] at hlen
    obtain ⟨y0, y1⟩ := two_box hy
    have hcN := (block_cell' hsb.pN 0).1
    have hfN := (block_cell' hsb.pN 0).2
    have hcL := (block_cell' hsb.pL 0).1
    have hcR := (block_cell' hsb.pR 0).1
    have hfR := (block_cell' hsb.pR 0).2
    obtain ⟨g, cap', he⟩ := own_shape hsb.row (by omega)
    simp only [Value.slice.injEq] at he
    obtain ⟨rfl, -, rfl⟩ := he
    obtain ⟨⟨o0, o1⟩, -⟩ := row2 hsb.row pre.length hlen
    have hsn : (out.map kn).take (pre ++ [y]).length = (out.map kn).take pre.length ++ [((pos out pre.length).key, (pos out pre.length).name)] := by
      rw [List.length_append, List.length_singleton, List.take_succ_eq_append_getElem (by simpa using hlen), pos_get hlen]
      simp [kn]
    have hsy : (pre ++ [y]).map kn = pre.map kn ++ [(y.key, y.name)] := by simp [kn]
    obtain ⟨k', hk'⟩ : ∃ z, z = (pos out pre.length).key := ⟨_, rfl⟩
    obtain ⟨n', hn'⟩ : ∃ z, z = (pos out pre.length).name := ⟨_, rfl⟩
    rw [← hk'] at o0 hsn
    rw [← hn'] at o1 hsn
    have HSN := Lib.hid hsn
    have HSY := Lib.hid hsy
    have HP := Lib.hid hp
    have HSW := Lib.hid hsb
    have HlE := Lib.hid (show (pre ++ [y]).length = pre.length + 1 from by simp)
    obtain ⟨j, hj⟩ : ∃ j, j = pre.length := ⟨_, rfl⟩
    rw [← hj] at hcN hlen o0 o1 HSW HlE
    have hjI : decide ((out.length : Int) ≤ (j : Int)) = false := by simp; omega
    have hjN : decide (out.length ≤ j) = false := by simp; omega
    have hjJ : (j : Int) < out.length := by omega
    have hj5 : out.length ≤ 100000 := by rw [HLn.out]; exact HR.out.le
    clear hsn hsy hp hsb hj hk' hn'
    rcases (show (y.key = k' ∧ y.name = n') ∨ (y.key ≠ k') ∨ (y.key = k' ∧ y.name ≠ n') by omega) with ⟨e1, e2⟩ | e1 | ⟨e1, e2⟩
    · subst e1
      subst e2
      gi_wp2
      refine wpIn_region_quiet_lit (by kernel_rfl) (by kernel_rfl) (by kernel_rfl) ?_
      repeat (go_big_quiet_step (fail))
      refine wpQuiet_nil ?_
      intro _ hw'
      obtain ⟨nq, hw''⟩ := hw'
      subst hw''
      have HSW2 := Lib.hid (HSW.out.later (below_draws (Below.refl W'.heap.size W') nq))
      clear hjI hjN
      gi_wp2
      refine ⟨keepsFrom_put _ _ _ _, kpE_put _ HSW.out.pN (by decide), by rw [HSN.out, HSY.out, HP.out], ?_⟩
      have h := HSW2.out.put HNl.out (j + 1)
      rw [HlE.out]
      exact h
    · have hq : (y.key != k') = true := by simpa using e1
      have hq2 : (y.key == k') = false := by simpa using e1
      have hq3 : decide (y.key = k') = false := by simpa using e1
      gi_wp2
      refine wpIn_region_quiet_lit (by kernel_rfl) (by kernel_rfl) (by kernel_rfl) ?_
      repeat (go_big_quiet_step (fail))
      refine wpQuiet_nil ?_
      intro _ hw'
      obtain ⟨nq, hw''⟩ := hw'
      subst hw''
      gi_wp2
      refine ⟨keepsFrom_put _ _ _ _, rfl, ?_⟩
      rw [HSN.out, HSY.out, HP.out]
      intro h
      have := (List.append_cancel_left h)
      simp at this
      omega
    · subst e1
      have hq : (y.name != n') = true := by simpa using e2
      have hq2 : (y.name == n') = false := by simpa using e2
      have hq3 : decide (y.name = n') = false := by simpa using e2
      gi_wp2
      refine wpIn_region_quiet_lit (by kernel_rfl) (by kernel_rfl) (by kernel_rfl) ?_
      repeat (go_big_quiet_step (fail))
      refine wpQuiet_nil ?_
      intro _ hw'
      obtain ⟨nq, hw''⟩ := hw'
      subst hw''
      gi_wp2
      refine ⟨keepsFrom_put _ _ _ _, rfl, ?_⟩
      rw [HSN.out, HSY.out, HP.out]
      intro h
      have := (List.append_cancel_left h)
      simp at this
      omega
  case done =>
    rintro D ys W' hD ⟨h1, h2⟩ ⟨hp, hsb⟩ hKD
    have hyl : ys.length = out.length := by rw [h1.length_eq, HLn.out]
    rw [hyl] at hsb
    have hcN := (block_cell' hsb.pN 0).1
    have hcL := (block_cell' hsb.pL 0).1
    have hcR := (block_cell' hsb.pR 0).1
    have hfR := (block_cell' hsb.pR 0).2
    have hqe : ((out.length : Int) == (out.length : Int)) = true := by simp
    have HSB := Lib.hid hsb
    have HKD := Lib.hid hKD
    clear hsb hKD hp hyl h1 h2
    go_wp2_with fail
    have hKD0 : W'.heap[D]? = some (.deferred (some [])) := HKD.out
    have hK2 : (W'.setCell ⟨W.heap.size, 0, none⟩ (.bool true)).heap[D]? = some (.deferred (some [])) := (KeepsOthers.setCell W' ⟨W.heap.size, 0, none⟩ (.bool true)).same D _ hKD0 rfl
    have hbx : Boxed W' W.heap.size 4 (.bool false) := HSB.out.pR
    have hc4 : (W'.setCell ⟨W.heap.size, 0, none⟩ (.bool true)).cell? ⟨W.heap.size, 0, none⟩ = some (.bool true) := (hbx.set (.bool true)).cell
    have hc5 : ((W'.setCell ⟨W.heap.size, 0, none⟩ (.bool true)).putObj D (.deferred none)).cell? ⟨W.heap.size, 0, none⟩ = some (.bool true) := cell_kept hc4 (grownBy_putObj' _ D (.deferred none)) (fun r e => by cases e; exact ⟨_, hK2, rfl⟩)
    have hbel := HSB.out.bel.setCell (p := ⟨W.heap.size, 0, none⟩) (Nat.le_refl _) (.bool true)
    refine ⟨by simp, .inl ⟨_, _, rfl, run_takeDeferred hK2, ?_⟩⟩
    refine ⟨.bool true, ?_, rfl, hbel.trans (belowK_b (w := W) (Nat.le_refl _) _ D _ _ (by omega) hK2 rfl rfl)⟩
    simp [results, Try.f21, go_sem, hc5]
  case stop =>
    rintro D c pre W' hD ⟨S, h1, h2, h3⟩ ⟨_, h⟩ hKD
    have := takeAll_sorted _ _ _ HTr.out h1 h2 _ HTa.out
    subst this
    refine (h ?_).elim
    rw [← List.map_take, ← List.prefix_iff_eq_take.1 h3]
end Go.Proofs.Ytcpcgpanmoellaa
