/-
  mean: a try as it lies; a node is matched.
-/
import Derived.Test.YtkimkghldilliaaGreatMnL
import Derived.Test.YtkimkghldilliaaGreatClass
namespace Go.Proofs.YtkimkghldilliaaGreat
open Go.RowKit Go.Lib

abbrev TTm : List TypeId := [71, 130, 175]
/-- what stays: the world ahead of it, the grammar, the input, where the try and its store lie, all steps. -/
structure Cx where
  w0 : World
  rv : Value
  nv : Value
  wv : Value
  R : List Ru
  N : List Nd
  W : List UInt8
  tb : Nat
  s : Nat
  m : Nat
  T : Nat
structure CxOk (C : Cx) : Prop where
  gr : GrOk C.w0 C.rv C.nv C.R C.N
  ws : BytesAt C.w0 C.wv C.W
  gv : GrV C.R C.N
  hW : C.W.length ≤ 2048
  hT : C.T ≤ 1000000000
  tb : C.w0.heap.size ≤ C.tb
def trC (C : Cx) (st : Ss) : Array Value := #[.int .i64 st.left, .int .i64 ((C.T : Int) - st.left), .bool st.over, C.rv, C.nv, C.wv, .pointer (some ⟨C.s, 0, none⟩)]
/-- a try. -/
structure TrS (C : Cx) (F : Live) (st : Ss) (w : World) : Prop where
  bel : Below C.w0.heap.size C.w0 w
  blk : w.heap[C.tb]? = some (.cells (trC C st) 71 (0, 0))
  sto : ∃ sv, StIs C.w0.heap.size w C.s C.m sv F
  le : st.left ≤ C.T
def sdOf (f : Fd) : Option Sd := if f.is = true then some ⟨f.en.toNat, f.lev, f.tree⟩ else none
def lvF (F : Live) : Lv := F.map fun x => (x.1, sdOf x.2)
structure LiveOk (C : Cx) (F : Live) : Prop where
  ok : LvOk C.W (lvF F)
  num : ∀ x ∈ F, x.2.is = true → x.2.en = (x.2.en.toNat : Int)
  short : ∀ x ∈ F, x.2.tree.length ≤ 1000000
/-- what is told of a node. -/
def Post (C : Cx) (F : Live) (r : Fo) (st' : Ss) (w : World) (e : Ending) (w' : World) : Prop := (∃ v, e = .returned v ∧ FoAt w' v r) ∧ TrS C F st' w' ∧ KeepT C.w0.heap.size TTm true w w'
def MatchC (C : Cx) (f : Nat) : Prop := ∀ (n p : Nat) (F : Live) (st : Ss) (r : Fo) (st' : Ss) (w : World), TrS C F st w → LiveOk C F → p ≤ C.W.length → n < C.N.length → st.left ≤ f → ev false C.R C.N C.W f n p (lvF F) st = some (r, st') →
  Calls Tryz.prog 54 #[.pointer (some ⟨C.tb, 0, none⟩), .int .i64 n, .int .i64 p] w (Post C F r st' w)
theorem seven_box {w : World} {b : Nat} {x0 x1 x2 x3 x4 x5 x6 : Value} {t : TypeId} (h : w.heap[b]? = some (.cells #[x0, x1, x2, x3, x4, x5, x6] t (0, 0))) : w.cell? ⟨b, 0, none⟩ = some x0 ∧ w.cell? ⟨b, 1, none⟩ = some x1 ∧ w.cell? ⟨b, 2, none⟩ = some x2 ∧ w.cell? ⟨b, 3, none⟩ = some x3 ∧ w.cell? ⟨b, 4, none⟩ = some x4 ∧ w.cell? ⟨b, 5, none⟩ = some x5 ∧ w.cell? ⟨b, 6, none⟩ = some x6 :=
  ⟨(block_cell' h 0).1, (block_cell' h 1).1, (block_cell' h 2).1, (block_cell' h 3).1, (block_cell' h 4).1, (block_cell' h 5).1, (block_cell' h 6).1⟩
theorem TrS.cells {C : Cx} {F : Live} {st : Ss} {w : World} (h : TrS C F st w) : w.cell? ⟨C.tb, 0, none⟩ = some (.int .i64 st.left) ∧ w.cell? ⟨C.tb, 1, none⟩ = some (.int .i64 ((C.T : Int) - st.left)) ∧ w.cell? ⟨C.tb, 2, none⟩ = some (.bool st.over) ∧ w.cell? ⟨C.tb, 3, none⟩ = some C.rv ∧ w.cell? ⟨C.tb, 4, none⟩ = some C.nv ∧ w.cell? ⟨C.tb, 5, none⟩ = some C.wv ∧ w.cell? ⟨C.tb, 6, none⟩ = some (.pointer (some ⟨C.s, 0, none⟩)) := seven_box h.blk
theorem TrS.later {C : Cx} {F : Live} {st : Ss} {w w' : World} (h : TrS C F st w) (hb : Below w.heap.size w w') : TrS C F st w' := by
  obtain ⟨sv, hs⟩ := h.sto
  exact ⟨h.bel.trans (hb.mono h.bel.size), (hb.block _ (lt_of_block h.blk)).trans h.blk, ⟨sv, hs.later hb⟩, h.le⟩
theorem TrS.base {C : Cx} {F : Live} {st : Ss} {w : World} (h : TrS C F st w) : C.w0.heap.size ≤ w.heap.size := h.bel.size
theorem KeepT.tra {B : Nat} {T : List TypeId} {mp : Bool} {a b c : World} (h : KeepT B T mp a b) (k : KeepT B T mp b c) : KeepT B T mp a c := KeepT.trans h k
/-- the purse's three cells, set. -/
theorem set3p {w : World} {b : Nat} {x0 x1 x2 x3 x4 x5 x6 : Value} {t : TypeId} (h : w.heap[b]? = some (.cells #[x0, x1, x2, x3, x4, x5, x6] t (0, 0))) (y0 y1 y2 : Value) :
    (((w.setCell ⟨b, 2, none⟩ y2).setCell ⟨b, 0, none⟩ y0).setCell ⟨b, 1, none⟩ y1).heap[b]? = some (.cells #[y0, y1, y2, x3, x4, x5, x6] t (0, 0)) ∧ (w.setCell ⟨b, 2, none⟩ y2).heap[b]? = some (.cells #[x0, x1, y2, x3, x4, x5, x6] t (0, 0)) ∧ Keeps (· = b) w (((w.setCell ⟨b, 2, none⟩ y2).setCell ⟨b, 0, none⟩ y0).setCell ⟨b, 1, none⟩ y1) ∧ Keeps (· = b) w (w.setCell ⟨b, 2, none⟩ y2) :=
  ⟨block_setCell' (block_setCell' (block_setCell' h)), block_setCell' h, (((Keeps.refl (fun k => k = b) w).setCell (p := ⟨b, 2, none⟩) rfl _).setCell (p := ⟨b, 0, none⟩) rfl _).setCell (p := ⟨b, 1, none⟩) rfl _, (Keeps.refl (fun k => k = b) w).setCell (p := ⟨b, 2, none⟩) rfl _⟩
theorem TrS.paid {C : Cx} (hC : CxOk C) {F : Live} {st st' : Ss} {w w' : World} (h : TrS C F st w) (hb : w'.heap[C.tb]? = some (.cells (trC C st') 71 (0, 0))) (hk : Keeps (· = C.tb) w w') (hl : st'.left ≤ C.T) : TrS C F st' w' ∧ KeepT C.w0.heap.size TTm true w w' := by
  have k1 : KeepT C.w0.heap.size [71] false w w' := one_keep hk h.blk hC.tb (List.mem_singleton.2 rfl) (by simp)
  obtain ⟨sv, hs⟩ := h.sto
  exact ⟨⟨h.bel.trans (k1.below h.base), hb, ⟨sv, hs.keepT k1 (by simp) (by simp) (by simp)⟩, hl⟩, KeepT.mono k1 (by simp) (fun h => by cases h)⟩
set_option maxRecDepth 100000 in
set_option maxHeartbeats 2000000 in
theorem pay_no {C : Cx} (hC : CxOk C) {F : Live} {st : Ss} (w : World) (h : TrS C F st w) (hs : st.over = true ∨ st.left = 0) :
    Calls Tryz.prog 98 #[.pointer (some ⟨C.tb, 0, none⟩)] w fun e w' => e = .returned (.bool false) ∧ TrS C F { st with over := true } w' ∧ KeepT C.w0.heap.size TTm true w w' := by
  have H := Lib.hid h
  have HC := Lib.hid hC
  obtain ⟨left, over⟩ := st
  simp only at hs
  obtain ⟨c0, c1, c2, c3, c4, c5, c6⟩ := h.cells
  have f0 := (block_cell' h.blk 0).2
  have f1 := (block_cell' h.blk 1).2
  have f2 := (block_cell' h.blk 2).2
  obtain ⟨tb, htb⟩ : ∃ tb, tb = C.tb := ⟨_, rfl⟩
  rw [← htb] at c0 c1 c2 c3 c4 c5 c6 f0 f1 f2 ⊢
  have HT := Lib.hid htb
  clear h hC htb
  simp only at c0 c1 c2
  cases over
  · obtain rfl : left = 0 := by simpa using hs
    clear hs
    go_enter Tryz.func98, Tryz.ntmps98
    go_wp2
    go_ret
    rw [HT.out]
    obtain ⟨-, k1, -, k2⟩ := set3p H.out.blk (.bool true) (.bool true) (.bool true)
    exact ⟨rfl, H.out.paid (st' := ⟨0, true⟩) HC.out k1 k2 H.out.le⟩
  · go_enter Tryz.func98, Tryz.ntmps98
    go_wp2
    go_ret
    rw [HT.out]
    obtain ⟨-, k1, -, k2⟩ := set3p H.out.blk (.bool true) (.bool true) (.bool true)
    exact ⟨rfl, H.out.paid (st' := ⟨left, true⟩) HC.out k1 k2 H.out.le⟩
set_option maxRecDepth 100000 in
set_option maxHeartbeats 2000000 in
theorem pay_yes {C : Cx} (hC : CxOk C) {F : Live} {l : Nat} (w : World) (h : TrS C F ⟨l + 1, false⟩ w) :
    Calls Tryz.prog 98 #[.pointer (some ⟨C.tb, 0, none⟩)] w fun e w' => e = .returned (.bool true) ∧ TrS C F ⟨l, false⟩ w' ∧ KeepT C.w0.heap.size TTm true w w' := by
  have H := Lib.hid h
  have HC := Lib.hid hC
  have hT := hC.hT
  have hle := h.le
  obtain ⟨c0, c1, c2, c3, c4, c5, c6⟩ := h.cells
  have f0 := (block_cell' h.blk 0).2
  have f1 := (block_cell' h.blk 1).2
  have f2 := (block_cell' h.blk 2).2
  obtain ⟨tb, htb⟩ : ∃ tb, tb = C.tb := ⟨_, rfl⟩
  rw [← htb] at c0 c1 c2 c3 c4 c5 c6 f0 f1 f2 ⊢
  have HT := Lib.hid htb
  simp only at c0 c1 c2 hle
  have hw1 : IntKind.i64.wrap (((l + 1 : Nat) : Int) - 1) = (l : Int) := by rw [IntWalk.i64_in _ (by omega)]; omega
  obtain ⟨n, hn⟩ : ∃ n, n = l + 1 := ⟨_, rfl⟩
  have hw2 : IntKind.i64.wrap ((C.T : Int) - (n : Int) + 1) = (C.T : Int) - (l : Int) := by rw [IntWalk.i64_in _ (by omega)]; omega
  have hn0 : ((n : Int) == 0) = false := by simp; omega
  rw [← hn] at c0 c1 hw1
  clear h hC htb hT hle hn
  go_enter Tryz.func98, Tryz.ntmps98
  go_wp2
  go_ret
  rw [HT.out]
  obtain ⟨k1, -, k2, -⟩ := set3p H.out.blk (.int .i64 l) (.int .i64 ((C.T : Int) - (l : Int))) (.bool false)
  exact ⟨rfl, H.out.paid (st' := ⟨l, false⟩) HC.out k1 k2 (by have := H.out.le; simp only at this ⊢; omega)⟩
/-- what a kind does. -/
def wayF (k : Int) : FuncId := if k = 1 then 126 else if k = 2 ∨ k = 3 then 127 else if k = 4 then 128 else if k = 5 then 129 else if k = 6 then 130 else if k = 7 then 131 else if k = 8 then 132 else if k = 9 then 133 else if k = 10 then 134 else 135
set_option maxRecDepth 100000 in
set_option maxHeartbeats 4000000 in
theorem way_any (k : Int) (w : World) (h : 1 ≤ k ∧ k ≤ 12) : Calls Tryz.prog 99 #[.int .i64 k] w fun e w' => e = .returned (.func (.func (wayF k)) #[] #[]) ∧ w = w' := by
  rcases (by omega : k = 1 ∨ k = 2 ∨ k = 3 ∨ k = 4 ∨ k = 5 ∨ k = 6 ∨ k = 7 ∨ k = 8 ∨ k = 9 ∨ k = 10 ∨ k = 11 ∨ k = 12) with rfl | rfl | rfl | rfl | rfl | rfl | rfl | rfl | rfl | rfl | rfl | rfl
  all_goals
    clear h
    go_enter Tryz.func99, Tryz.ntmps99
    go_wp2
    go_ret
    exact ⟨rfl, rfl⟩
/-- what the function of a kind tells. -/
def WayC (C : Cx) (f : Nat) (x : Nd) : Prop := ∀ (p : Nat) (F : Live) (st : Ss) (r : Fo) (st' : Ss) (w : World), TrS C F st w → LiveOk C F → p ≤ C.W.length → st.left ≤ f → nodeE (ev false C.R C.N C.W f) false C.R C.W x p (lvF F) (f + 1) st = some (r, st') →
  Calls Tryz.prog (wayF x.kind) #[.pointer (some ⟨C.tb, 0, none⟩), ndv x, .int .i64 p] w (Post C F r st' w)
end Go.Proofs.YtkimkghldilliaaGreat
