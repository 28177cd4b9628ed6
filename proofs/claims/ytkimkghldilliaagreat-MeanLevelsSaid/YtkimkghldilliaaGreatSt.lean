/-
  The store: what lies in memory; what only looks at it.
-/
import Derived.Test.YtkimkghldilliaaGreatMap
import Derived.StillTailTactics
namespace Go.Proofs.YtkimkghldilliaaGreat
open Go.RowKit

/-- blocks that are watched: no call writes them (a script, reads, twigs of another script). -/
class Watch where
  W : Nat → Prop
instance (priority := low) noWatch : Watch := ⟨fun _ => False⟩
/-- blocks of some types (and maps): what a call may write. -/
def Tyb [Watch] (T : List TypeId) (mp : Bool) (w : World) (k : Nat) : Prop :=
  match w.heap[k]? with
  | some (.cells _ t _) => t ∈ T ∧ (t ∈ [33] → ¬ Watch.W k)
  | some (.map _ _) => mp = true
  | _ => False
/-- what a call may write: blocks of some types that lie from base on. -/
def Foot [Watch] (base : Nat) (T : List TypeId) (mp : Bool) (w : World) (k : Nat) : Prop := base ≤ k ∧ Tyb T mp w k
abbrev KeepT [Watch] (base : Nat) (T : List TypeId) (mp : Bool) (w w' : World) : Prop := Keeps (Foot base T mp w) w w'
theorem Tyb.eq [Watch] {T : List TypeId} {mp : Bool} {w w' : World} {k : Nat} (h : w'.heap[k]? = w.heap[k]?) : Tyb T mp w' k ↔ Tyb T mp w k := by unfold Tyb; rw [h]
theorem KeepT.trans [Watch] {base : Nat} {T : List TypeId} {mp : Bool} {a b c : World} (h : KeepT base T mp a b) (k : KeepT base T mp b c) : KeepT base T mp a c :=
  ⟨k.os.trans h.os, k.tape.trans h.tape, k.output.trans h.output, Nat.le_trans h.size k.size, fun i hi hn => by
    have e := h.block i hi hn
    exact (k.block i (Nat.lt_of_lt_of_le hi h.size) (fun hb => hn ⟨hb.1, (Tyb.eq e).1 hb.2⟩)).trans e⟩
theorem KeepT.mono [Watch] {base : Nat} {T T' : List TypeId} {mp mp' : Bool} {a b : World} (h : KeepT base T mp a b) (hT : ∀ t ∈ T, t ∈ T') (hm : mp = true → mp' = true) : KeepT base T' mp' a b :=
  Keeps.mono h fun k _ hk => ⟨hk.1, by
    have := hk.2
    unfold Tyb at this ⊢
    split at this <;> simp_all⟩
theorem KeepT.base [Watch] {base base' : Nat} {T : List TypeId} {mp : Bool} {a b : World} (h : KeepT base T mp a b) (hb : base' ≤ base) : KeepT base' T mp a b :=
  Keeps.mono h fun _ _ hk => ⟨Nat.le_trans hb hk.1, hk.2⟩
theorem KeepT.below [Watch] {base : Nat} {T : List TypeId} {mp : Bool} {a b : World} (h : KeepT base T mp a b) (hB : base ≤ a.heap.size) : Below base a b := Keeps.below h hB fun _ hk => hk.1
theorem KeepT.ofBelow [Watch] {base : Nat} {T : List TypeId} {mp : Bool} {a b : World} (h : Below a.heap.size a b) : KeepT base T mp a b := Keeps.ofNew h _
theorem KeepT.cells [Watch] {base : Nat} {T : List TypeId} {mp : Bool} {a b : World} (h : KeepT base T mp a b) {k : Nat} {cs : Array Value} {t : TypeId} {fr : Nat × Nat} (hk : a.heap[k]? = some (.cells cs t fr)) (ht : t ∉ T) : b.heap[k]? = some (.cells cs t fr) :=
  Keeps.obj h hk fun hS => ht (by have := hS.2; unfold Tyb at this; rw [hk] at this; exact this.1)
theorem KeepT.map [Watch] {base : Nat} {T : List TypeId} {a b : World} (h : KeepT base T false a b) {m : Nat} {L : List (Pr × Value)} (hk : MapIs a m L) : MapIs b m L := by
  obtain ⟨es, clock, hb, he⟩ := hk
  refine ⟨es, clock, Keeps.obj h hb fun hS => ?_, he⟩
  have := hS.2
  unfold Tyb at this
  rw [hb] at this
  simp at this
theorem KeepT.setCell [Watch] {base : Nat} {T : List TypeId} {mp : Bool} {a w : World} (h : KeepT base T mp a w) {p : Addr} {cs : Array Value} {t : TypeId} {fr : Nat × Nat} (hp : w.heap[p.block]? = some (.cells cs t fr)) (ht : t ∈ T) (hw : t ∈ [33] → ¬ Watch.W p.block) (hb : base ≤ p.block) (u : Value) : KeepT base T mp a (w.setCell p u) :=
  KeepT.trans h ⟨rfl, rfl, rfl, by simp [World.setCell], fun k _ hn => Below.heap_setCell _ _ _ _ (fun e => hn (by subst e; exact ⟨hb, by unfold Tyb; rw [hp]; exact ⟨ht, hw⟩⟩))⟩

/-- a slice of twigs in blocks of twigs. -/
def TwIn (w : World) (v : Value) (l : List Tw) : Prop := TwAt w v l ∧ ∀ g off n cap, v = .slice (some ⟨g, off, none⟩) n cap → 0 < n → ∃ cs fr, w.heap[g]? = some (.cells cs 50 fr)
theorem TwAt.empty {w w' : World} {v : Value} (h : TwAt w v []) : TwAt w' v [] := by
  obtain ⟨ao, b, off, cap, rfl, hl, hm, hn, ha, he, hc⟩ := h
  exact ⟨ao, b, off, cap, rfl, hl, hm, hn, fun h => by simp at h, he, fun i hi => by simp at hi⟩
theorem TwIn.keepT [Watch] {base : Nat} {T : List TypeId} {mp : Bool} {w w' : World} {v : Value} {l : List Tw} (h : TwIn w v l) (hk : KeepT base T mp w w') (ht : 50 ∉ T) : TwIn w' v l := by
  obtain ⟨h1, h2⟩ := h
  refine ⟨?_, fun g off n cap e hn => ?_⟩
  · cases l with
    | nil => exact h1.empty
    | cons x r =>
      refine RowsAt.keeps (by omega) h1 hk fun k ⟨off, n, cap, e⟩ hS => ?_
      have hn : n = (x :: r).length := by
        obtain ⟨ao', cap', e'⟩ := h1.val
        rw [e] at e'
        simp only [Value.slice.injEq] at e'
        exact e'.2.1
      obtain ⟨cs, fr, hb⟩ := h2 k off n cap e (by rw [hn]; simp)
      have := hS.2
      unfold Tyb at this
      rw [hb] at this
      exact ht this.1
  · obtain ⟨cs, fr, hb⟩ := h2 g off n cap e hn
    exact ⟨cs, fr, hk.cells hb ht⟩
theorem TwIn.later {w w' : World} {v : Value} {l : List Tw} (h : TwIn w v l) (hb : Below w.heap.size w w') : TwIn w' v l :=
  ⟨h.1.later hb, fun g off n cap e hn => by obtain ⟨cs, fr, h3⟩ := h.2 g off n cap e hn; exact ⟨cs, fr, (hb.block g (lt_of_block h3)).trans h3⟩⟩
theorem TwIn.nil (w : World) : TwIn w (.slice none 0 0) [] :=
  ⟨⟨none, 0, 0, 0, by simp, by simp, by unfold maxLen; omega, fun _ => ⟨rfl, rfl⟩, fun h => by simp at h, fun e he => by simp at he, fun i hi => by simp at hi⟩, fun _ _ _ _ e => by simp at e⟩

/-- what was found of a pair. -/
structure Fd where
  is : Bool
  en : Int
  lev : Int
  tree : List Tw
  v : Value
def fdv (f : Fd) : Value := .agg #[.bool f.is, .int .i64 f.en, .int .i64 f.lev, f.v]
def Fd.none : Fd := ⟨false, 0, 0, [], .slice .none 0 0⟩
abbrev Live := List (Pr × Fd)
abbrev pcs (F : Live) : List Value := F.flatMap fun x => [.int .i64 x.1.1, .int .i64 x.1.2]
/-- a store. -/
structure StIs (base : Nat) (w : World) (s m : Nat) (sv : Value) (F : Live) : Prop where
  blk : w.heap[s]? = some (.cells #[sv, .map (some m)] 130 (0, 0))
  row : w.ownsRow base 175 2 sv F.length (pcs F)
  map : MapIs w m (F.map fun x => (x.1, fdv x.2))
  trees : ∀ x ∈ F, TwIn w x.2.v x.2.tree
  apart : F.Pairwise fun a b => a.1 ≠ b.1
  wf : ∀ x ∈ F, W64 x.1
  bs : base ≤ s
  bm : base ≤ m
  le : F.length ≤ 100000
/-- some store. -/
def St (base : Nat) (w : World) (s : Nat) (F : Live) : Prop := ∃ m sv, StIs base w s m sv F
theorem StIs.keepT [Watch] {base B : Nat} {T : List TypeId} {w w' : World} {s m : Nat} {sv : Value} {F : Live} (h : StIs base w s m sv F) (hk : KeepT B T false w w') (h1 : 130 ∉ T) (h2 : 175 ∉ T) (h3 : 50 ∉ T) : StIs base w' s m sv F := by
  refine ⟨hk.cells h.blk h1, ?_, hk.map h.map, fun x hx => (h.trees x hx).keepT hk h3, h.apart, h.wf, h.bs, h.bm, h.le⟩
  refine Keeps.row hk h.row fun k hkk hS => ?_
  rcases h.row.2 with ⟨rfl, _⟩ | ⟨g, cap, cur, rfl, _, hg, _⟩
  · simp [Value.ownBlock] at hkk
  · simp [Value.ownBlock] at hkk
    subst hkk
    have := hS.2
    unfold Tyb at this
    rw [hg] at this
    exact h2 this.1
theorem StIs.later {base : Nat} {w w' : World} {s m : Nat} {sv : Value} {F : Live} (h : StIs base w s m sv F) (hb : Below w.heap.size w w') : StIs base w' s m sv F := by
  refine h.keepT (B := 0) (T := []) ?_ (by simp) (by simp) (by simp)
  exact KeepT.ofBelow hb
theorem St.later {base : Nat} {w w' : World} {s : Nat} {F : Live} (h : St base w s F) (hb : Below w.heap.size w w') : St base w' s F := by
  obtain ⟨m, sv, h⟩ := h
  exact ⟨m, sv, h.later hb⟩
theorem St.keepT [Watch] {base B : Nat} {T : List TypeId} {w w' : World} {s : Nat} {F : Live} (h : St base w s F) (hk : KeepT B T false w w') (h1 : 130 ∉ T) (h2 : 175 ∉ T) (h3 : 50 ∉ T) : St base w' s F := by
  obtain ⟨m, sv, h⟩ := h
  exact ⟨m, sv, h.keepT hk h1 h2 h3⟩
theorem StIs.cells {base : Nat} {w : World} {s m : Nat} {sv : Value} {F : Live} (h : StIs base w s m sv F) : w.cell? ⟨s, 0, none⟩ = some sv ∧ w.cell? ⟨s, 1, none⟩ = some (.map (some m)) ∧ w.frozen? ⟨s, 0, none⟩ = false ∧ w.frozen? ⟨s, 1, none⟩ = false := box_cells h.blk
theorem pcs_len (F : Live) : (pcs F).length = F.length * 2 := flat_len (f := fun x : Pr × Fd => [Value.int .i64 x.1.1, .int .i64 x.1.2]) (fun _ => rfl) F
theorem StIs.lastCells {base : Nat} {w : World} {s m : Nat} {sv : Value} {F : Live} {p : Pr} {f : Fd} (h : StIs base w s m sv (F ++ [(p, f)])) : ∃ g cap, sv = .slice (some ⟨g, 0, none⟩) (F.length + 1) cap ∧ w.cell? ⟨g, F.length * 2, none⟩ = some (.int .i64 p.1) ∧ w.cell? ⟨g, F.length * 2 + 1, none⟩ = some (.int .i64 p.2) := by
  have hr := h.row
  obtain ⟨g, cap, e⟩ := own_shape hr (by simp)
  subst e
  have e : pcs (F ++ [(p, f)]) = pcs F ++ [.int .i64 p.1, .int .i64 p.2] := by simp [pcs]
  refine ⟨g, cap, by simp, ?_, ?_⟩
  · rw [hr.cellAt _ (by simp), e, List.getElem?_append_right (by rw [pcs_len]; omega), pcs_len]
    simp
  · rw [hr.cellAt _ (by simp; omega), e, List.getElem?_append_right (by rw [pcs_len]; omega), pcs_len]
    simp

set_option maxHeartbeats 400000 in
theorem st_made {base s m : Nat} {sv : Value} {F : Live} (w : World) (h : StIs base w s m sv F) :
    Calls Tryz.prog 96 #[.pointer (some ⟨s, 0, none⟩)] w fun e w' => e = .returned (.bool true) ∧ w = w' := by
  obtain ⟨c0, c1, c2, c3⟩ := h.cells
  clear h
  have qT : ∀ (w : World) (r : Option Nat), (binOp .neq 125 (.map r) (.map none)).run Tryz.prog w = .ok (.bool (!r.isNone)) w := fun w r => run_neq_map_nil w _ _ _ r Tryz.underlying125
  go_enter Tryz.func96, Tryz.ntmps96
  go_wp2
  go_ret
  exact ⟨rfl, rfl⟩
set_option maxHeartbeats 400000 in
theorem st_last0 {base s m : Nat} {sv : Value} (w : World) (h : StIs base w s m sv []) :
    Calls Tryz.prog 136 #[.pointer (some ⟨s, 0, none⟩)] w fun e w' => e = .returned (.tuple #[.agg #[.int .i64 0, .int .i64 0], .bool false]) ∧ Below w.heap.size w w' := by
  obtain ⟨c0, -, -, -⟩ := h.cells
  obtain ⟨ao, cap, rfl⟩ := own_val h.row
  have e0 : ∀ o : Obj, (w.alloc o).cell? ⟨s, 0, none⟩ = some (.slice ao 0 cap) := fun o => cell_later ((Below.refl _ _).alloc (Nat.le_refl _) o) c0
  clear h c0
  go_enter Tryz.func136, Tryz.ntmps136
  go_wp2
  refine bodyPost_ret (v := .tuple #[.agg #[.int .i64 0, .int .i64 0], .bool false]) (by simp [results, Tryz.f136, go_sem]) rfl ⟨rfl, (Below.refl _ _).alloc (Nat.le_refl _) _⟩
set_option maxRecDepth 100000 in
set_option maxHeartbeats 1000000 in
theorem st_last {base s m : Nat} {sv : Value} {F : Live} {p : Pr} {f : Fd} (w : World) (h : StIs base w s m sv (F ++ [(p, f)])) :
    Calls Tryz.prog 136 #[.pointer (some ⟨s, 0, none⟩)] w fun e w' => e = .returned (.tuple #[pkv p, .bool true]) ∧ Below w.heap.size w w' := by
  have hlen := h.le
  simp only [List.length_append, List.length_cons, List.length_nil] at hlen
  obtain ⟨c0, -, -, -⟩ := h.cells
  obtain ⟨g, cap, rfl, d0, d1⟩ := h.lastCells
  have e0 : ∀ o : Obj, (w.alloc o).cell? ⟨s, 0, none⟩ = some (.slice (some ⟨g, 0, none⟩) (F.length + 1) cap) := fun o => cell_later ((Below.refl _ _).alloc (Nat.le_refl _) o) c0
  have e1 : ∀ o : Obj, (w.alloc o).cell? ⟨g, F.length * 2, none⟩ = some (.int .i64 p.1) := fun o => cell_later ((Below.refl _ _).alloc (Nat.le_refl _) o) d0
  have e2 : ∀ o : Obj, (w.alloc o).cell? ⟨g, F.length * 2 + 1, none⟩ = some (.int .i64 p.2) := fun o => cell_later ((Below.refl _ _).alloc (Nat.le_refl _) o) d1
  clear h c0 d0 d1
  obtain ⟨k, hk⟩ : ∃ k, k = F.length := ⟨_, rfl⟩
  obtain ⟨n, hn⟩ : ∃ n, n = k + 1 := ⟨_, rfl⟩
  rw [← hk] at e0 e1 e2 hlen
  rw [← hn] at e0
  have hw : IntKind.i64.wrap ((n : Int) - 1) = (k : Int) := by rw [show (n : Int) - 1 = k by omega]; exact IntWalk.i64_in _ (by omega)
  have hz : ((n : Int) == 0) = false := by simp; omega
  have hkn : (k : Int) < n := by omega
  clear hk hn hlen
  go_enter Tryz.func136, Tryz.ntmps136
  go_wp2_with fail
  have c0 := e0 (.cells #[.int .i64 0, .int .i64 0] 175)
  have c1 := e1 (.cells #[.int .i64 0, .int .i64 0] 175)
  have c2 := e2 (.cells #[.int .i64 0, .int .i64 0] 175)
  have hb := (Below.refl w.heap.size w).alloc (Nat.le_refl _) (.cells #[.int .i64 0, .int .i64 0] 175)
  have hx := heap_alloc_new w (.cells #[.int .i64 0, .int .i64 0] 175)
  have Hb := Lib.hid hb
  have Hx := Lib.hid hx
  obtain ⟨d0, d1, d2, d3⟩ := box_cells hx
  clear e0 e1 e2 hb hx
  obtain ⟨y, hy⟩ : ∃ y, y = w.heap.size := ⟨_, rfl⟩
  rw [← hy] at d0 d1 d2 d3 Hx ⊢
  have Hy := Lib.hid (Nat.le_of_eq hy.symm)
  clear hy
  generalize w.alloc (.cells #[.int .i64 0, .int .i64 0] 175) = w1 at *
  go_still_tail 12, (by kernel_rfl)
  go_wp2
  have hE : ((w1.setCell ⟨y, 0, none⟩ (.int .i64 p.1)).setCell ⟨y, 1, none⟩ (.int .i64 p.2)).drew.heap[y]? = some (.cells #[.int .i64 p.1, .int .i64 p.2] 175 (0, 0)) := by
    show ((w1.setCell ⟨y, 0, none⟩ (.int .i64 p.1)).setCell ⟨y, 1, none⟩ (.int .i64 p.2)).heap[y]? = _
    rw [block_setCell' (block_setCell' Hx.out)]; rfl
  obtain ⟨q0, q1, -, -⟩ := box_cells hE
  refine bodyPost_ret (v := .tuple #[pkv p, .bool true]) (by simp [results, Tryz.f136, go_sem, pkv, q0, q1]) rfl ⟨rfl, ?_⟩
  exact ((Hb.out.setCell (p := ⟨y, 0, none⟩) Hy.out _).setCell (p := ⟨y, 1, none⟩) Hy.out _).drew

set_option maxHeartbeats 400000 in
theorem fd_gives (f : Fd) (lev : Int) (w : World) :
    Calls Tryz.prog 168 #[fdv f, .int .i64 lev] w fun e w' => e = .returned (.bool (f.is && decide (f.lev ≤ lev))) ∧ Below w.heap.size w w' := by
  obtain ⟨is, en, fl, tr, v⟩ := f
  unfold fdv
  go_enter Tryz.func168, Tryz.ntmps168
  cases is
  · go_wp2
    go_ret
    exact ⟨rfl, (Below.refl _ _).alloc (Nat.le_refl _) _⟩
  · go_wp2
    go_ret
    exact ⟨by simp, (Below.refl _ _).alloc (Nat.le_refl _) _⟩

set_option maxHeartbeats 1000000 in
theorem tw_clone (v : Value) (t : List Tw) (w : World) (ht : TwIn w v t) (hl : t.length ≤ 1000000) :
    Calls Tryz.prog 137 #[v] w fun e w' => ∃ v', e = .returned v' ∧ TwIn w' v' t ∧ Below w.heap.size w w' := by
  have HT := Lib.hid ht
  obtain ⟨ao, cap, rfl⟩ := ht.1.val
  obtain ⟨-, hlc, hcm, hnil, hnews⟩ := rows_news twc_len (by omega) ht.1
  have Hnil := Lib.hid hnil
  have Hn := Lib.hid hnews
  clear ht hnil hnews
  obtain ⟨i0, hi, hz0, hz1, hz2⟩ := info_parts Tryz.infoTwig
  have hfr : (w.alloc (.cells #[] 50 (0, 0))).ownsRow w.heap.size 50 5 (.slice (some ⟨w.heap.size, 0, none⟩) 0 0) 0 [] := ⟨by simp, .inr ⟨w.heap.size, 0, #[], rfl, Nat.le_refl _, heap_alloc_new _ _, Nat.le_refl _, by unfold maxLen; omega, by simp, by simp⟩⟩
  have hal : Below w.heap.size w (w.alloc (.cells #[] 50 (0, 0))) := (Below.refl _ _).alloc (Nat.le_refl _) _
  obtain ⟨-, -, -, -, hn1⟩ := rows_news twc_len (by omega) (HT.out.1.later hal)
  have HN := Lib.hid hn1
  have Hfr := Lib.hid hfr
  clear hfr hn1 Hn
  have qT : ∀ (w : World) (a : Option Addr) (n c : Nat), (binOp .eql 33 (.slice a n c) (.slice none 0 0)).run Tryz.prog w = .ok (.bool a.isNone) w := fun w a n c => Lib.run_eql_slice_nil w _ _ a n c 0 0 Tryz.underlying33
  go_enter Tryz.func137, Tryz.ntmps137
  cases ao with
  | none =>
    go_wp2
    go_ret
    obtain ⟨h1, h2⟩ := Hnil.out trivial
    have : t = [] := List.eq_nil_of_length_eq_zero h1
    subst this
    exact ⟨_, rfl, TwIn.nil _, Below.refl _ _⟩
  | some ad =>
    go_wp2_with (at_builtin; refine wpList_append_mine _ rfl (.tmp 5) (.tmp 6) 33 rfl w.heap.size 50 i0 (.agg #[.int .i64 0, .int .i64 0, .int .i64 0, .int .i64 0, .int .i64 0]) 5 40 Tryz.underlying33 hi hz0 hz1 hz2 rfl (by decide) _ 0 [] rfl Hfr.out (some ad) t.length cap (tvs t) rfl (flat_len twc_len t) Hnil.out HN.out (flat_one twc_one t) (by unfold maxLen; omega) (by omega) (by simp) ?_; intro v2 w1 hown1 hg1 hfr1; have hbel1 := hal.grown hg1 (by simp) (fun k hk => by cases hk; exact Nat.le_refl _); simp only [Nat.zero_add, List.nil_append] at hown1; have Ho := Lib.hid hown1; have Hb := Lib.hid hbel1; clear hown1 hg1 hfr1 hbel1)
    go_ret
    refine ⟨_, rfl, ⟨own_rows twc_len rfl Ho.out, fun g off n cap e hn => ?_⟩, Hb.out⟩
    rcases Ho.out.2 with ⟨h0, _⟩ | ⟨g', cap', cur, hv, _, hg, _⟩
    · have e : v2 = _ := e
      rw [e] at h0; simp at h0
    · have e : v2 = _ := e
      rw [e] at hv
      simp only [Value.slice.injEq, Option.some.injEq, Addr.mk.injEq] at hv
      obtain ⟨⟨rfl, _⟩, _⟩ := hv
      exact ⟨_, _, hg⟩

theorem three_box {w : World} {b : Nat} {u v x : Value} {t : TypeId} (h : w.heap[b]? = some (.cells #[u, v, x] t (0, 0))) : w.cell? ⟨b, 0, none⟩ = some u ∧ w.cell? ⟨b, 1, none⟩ = some v ∧ w.cell? ⟨b, 2, none⟩ = some x ∧ w.frozen? ⟨b, 0, none⟩ = false ∧ w.frozen? ⟨b, 1, none⟩ = false ∧ w.frozen? ⟨b, 2, none⟩ = false := by
  simp [World.cell?, World.frozen?, h]
end Go.Proofs.YtkimkghldilliaaGreat
