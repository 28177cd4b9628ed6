/-
  The answers; a new store; what is read.
-/
import Derived.Test.YtebgleehmgmfbaaStD
namespace Go.Proofs.Ytebgleehmgmfbaa
open Go.RowKit Go.Lib

/-- an answer. -/
structure An where
  is : Bool
  en : Int
  far : Int
  tree : List Tw
  v : Value
  err : Int
def An.none : An := ⟨false, 0, -1, [], .slice .none 0 0, 0⟩
def anc (a : An) : List Value := [.bool a.is, .int .i64 a.en, .int .i64 a.far, a.v, .int .i64 a.err]
def anv (a : An) : Value := .agg #[.bool a.is, .int .i64 a.en, .int .i64 a.far, a.v, .int .i64 a.err]
theorem anc_len (a : An) : (anc a).length = 5 := rfl
def atA (l : List An) (n : Nat) : An := (l[n]?).getD An.none
/-- a slice of answers. -/
def AnsAt (w : World) (v : Value) (l : List An) : Prop := RowsAt w 5 v (l.map anc) ∧ ∀ a ∈ l, TwAt w a.v a.tree
theorem AnsAt.later {w w' : World} {v : Value} {l : List An} (h : AnsAt w v l) (hb : Below w.heap.size w w') : AnsAt w' v l := ⟨h.1.later hb, fun a ha => (h.2 a ha).later hb⟩
theorem AnsAt.val {w : World} {v : Value} {l : List An} (h : AnsAt w v l) : ∃ ao cap, v = .slice ao l.length cap := by
  obtain ⟨ao, cap, h⟩ := RowsAt.val h.1
  exact ⟨ao, cap, by simpa using h⟩
theorem AnsAt.cells {w : World} {ao : Option Addr} {n cap : Nat} {l : List An} (h : AnsAt w (.slice ao n cap) l) : n = l.length ∧ l.length ≤ cap ∧ cap ≤ maxLen ∧ (ao = none → n = 0 ∧ cap = 0) ∧ ∀ i (hi : i < l.length), ∃ b off, ao = some ⟨b, off, none⟩ ∧ b < w.heap.size ∧
    w.cell? ⟨b, off + i * 5, none⟩ = some (.bool l[i].is) ∧ w.cell? ⟨b, off + i * 5 + 1, none⟩ = some (.int .i64 l[i].en) ∧ w.cell? ⟨b, off + i * 5 + 2, none⟩ = some (.int .i64 l[i].far) ∧ w.cell? ⟨b, off + i * 5 + 3, none⟩ = some l[i].v ∧ w.cell? ⟨b, off + i * 5 + 4, none⟩ = some (.int .i64 l[i].err) := by
  obtain ⟨ao', b, off, cap', he, hl, hm, hn, ha, _, hc⟩ := h.1
  simp only [Value.slice.injEq, List.length_map] at he hl hn ha hc
  obtain ⟨rfl, rfl, rfl⟩ := he
  refine ⟨rfl, hl, hm, hn, fun i hi => ⟨b, off, (ha (by omega)).1, (ha (by omega)).2, ?_⟩⟩
  have h := fun j hj => hc i hi j hj
  simp only [List.getElem_map] at h
  exact ⟨h 0 (by omega), h 1 (by omega), h 2 (by omega), h 3 (by omega), h 4 (by omega)⟩
theorem atA_lt {l : List An} {n : Nat} (h : n < l.length) : atA l n = l[n] := by simp [atA, h]
theorem atA_ge {l : List An} {n : Nat} (h : ¬ n < l.length) : atA l n = An.none := by simp [atA, h]
theorem atA_tw {w : World} {v : Value} {l : List An} (h : AnsAt w v l) (n : Nat) : TwAt w (atA l n).v (atA l n).tree := by
  by_cases hn : n < l.length
  · rw [atA_lt hn]; exact h.2 _ (List.getElem_mem _)
  · rw [atA_ge hn]; exact (TwIn.nil w).1

theorem five_box {w : World} {b : Nat} {x0 x1 x2 x3 x4 : Value} {t : TypeId} (h : w.heap[b]? = some (.cells #[x0, x1, x2, x3, x4] t (0, 0))) : w.cell? ⟨b, 0, none⟩ = some x0 ∧ w.cell? ⟨b, 1, none⟩ = some x1 ∧ w.cell? ⟨b, 2, none⟩ = some x2 ∧ w.cell? ⟨b, 3, none⟩ = some x3 ∧ w.cell? ⟨b, 4, none⟩ = some x4 ∧
    w.frozen? ⟨b, 0, none⟩ = false ∧ w.frozen? ⟨b, 1, none⟩ = false ∧ w.frozen? ⟨b, 2, none⟩ = false ∧ w.frozen? ⟨b, 3, none⟩ = false ∧ w.frozen? ⟨b, 4, none⟩ = false := by
  simp [World.cell?, World.frozen?, h]

theorem set5 {w : World} {x : Nat} {a0 a1 a2 a3 a4 : Value} {t : TypeId} (h : w.heap[x]? = some (.cells #[a0, a1, a2, a3, a4] t (0, 0))) (v0 v1 v2 v3 v4 : Value) :
    (((((w.setCell ⟨x, 0, none⟩ v0).setCell ⟨x, 1, none⟩ v1).setCell ⟨x, 2, none⟩ v2).setCell ⟨x, 3, none⟩ v3).setCell ⟨x, 4, none⟩ v4).heap[x]? = some (.cells #[v0, v1, v2, v3, v4] t (0, 0)) ∧
    Keeps (fun k => k = x) w (((((w.setCell ⟨x, 0, none⟩ v0).setCell ⟨x, 1, none⟩ v1).setCell ⟨x, 2, none⟩ v2).setCell ⟨x, 3, none⟩ v3).setCell ⟨x, 4, none⟩ v4) :=
  ⟨block_setCell' (k := 4) (block_setCell' (k := 3) (block_setCell' (k := 2) (block_setCell' (k := 1) (block_setCell' (k := 0) h)))), ((((((Keeps.refl (fun k => k = x) w).setCell (p := ⟨x, 0, none⟩) rfl _).setCell (p := ⟨x, 1, none⟩) rfl _).setCell (p := ⟨x, 2, none⟩) rfl _).setCell (p := ⟨x, 3, none⟩) rfl _).setCell (p := ⟨x, 4, none⟩) rfl _)⟩
theorem four_box {w : World} {b : Nat} {x0 x1 x2 x3 : Value} {t : TypeId} (h : w.heap[b]? = some (.cells #[x0, x1, x2, x3] t (0, 0))) : w.cell? ⟨b, 0, none⟩ = some x0 ∧ w.cell? ⟨b, 1, none⟩ = some x1 ∧ w.cell? ⟨b, 2, none⟩ = some x2 ∧ w.cell? ⟨b, 3, none⟩ = some x3 ∧
    w.frozen? ⟨b, 0, none⟩ = false ∧ w.frozen? ⟨b, 1, none⟩ = false ∧ w.frozen? ⟨b, 2, none⟩ = false ∧ w.frozen? ⟨b, 3, none⟩ = false := by
  simp [World.cell?, World.frozen?, h]
theorem set4 {w : World} {x : Nat} {a0 a1 a2 a3 : Value} {t : TypeId} (h : w.heap[x]? = some (.cells #[a0, a1, a2, a3] t (0, 0))) (v0 v1 v2 v3 : Value) :
    ((((w.setCell ⟨x, 0, none⟩ v0).setCell ⟨x, 1, none⟩ v1).setCell ⟨x, 2, none⟩ v2).setCell ⟨x, 3, none⟩ v3).heap[x]? = some (.cells #[v0, v1, v2, v3] t (0, 0)) ∧
    Keeps (fun k => k = x) w ((((w.setCell ⟨x, 0, none⟩ v0).setCell ⟨x, 1, none⟩ v1).setCell ⟨x, 2, none⟩ v2).setCell ⟨x, 3, none⟩ v3) :=
  ⟨block_setCell' (k := 3) (block_setCell' (k := 2) (block_setCell' (k := 1) (block_setCell' (k := 0) h))), (((((Keeps.refl (fun k => k = x) w).setCell (p := ⟨x, 0, none⟩) rfl _).setCell (p := ⟨x, 1, none⟩) rfl _).setCell (p := ⟨x, 2, none⟩) rfl _).setCell (p := ⟨x, 3, none⟩) rfl _)⟩
theorem Below.keeps {x : Nat} {a b c : World} (h : Below a.heap.size a b) (k : Keeps (fun k => k = x) b c) (hx : a.heap.size ≤ x) : Below a.heap.size a c :=
  h.trans (Keeps.below k h.size (fun _k e => e ▸ hx))

set_option maxRecDepth 100000 in
set_option maxHeartbeats 1000000 in
theorem at_any (v : Value) (l : List An) (n : Nat) (w : World) (h : AnsAt w v l) :
    Calls Try.prog 17 #[v, .int .i64 n] w fun e w' => e = .returned (anv (atA l n)) ∧ Below w.heap.size w w' := by
  have H := Lib.hid h
  obtain ⟨ao, cap, rfl⟩ := h.val
  by_cases hn : n < l.length
  · rw [atA_lt hn]
    obtain ⟨-, hlc, hcm, -, hc⟩ := h.cells
    obtain ⟨b, off, rfl, hb, e0, e1, e2, e3, e4⟩ := hc n hn
    obtain ⟨ao', cap', hv⟩ := (h.2 _ (List.getElem_mem hn)).val
    generalize l[n] = a at *
    obtain ⟨is, en, far, tree, v', err⟩ := a
    simp only at e0 e1 e2 e3 e4 hv
    subst hv
    unfold anv
    have hbn : b ≠ w.heap.size := by omega
    clear h hc H
    have hlt : (n : Int) < l.length := by omega
    obtain ⟨k, hk⟩ : ∃ k, k = l.length := ⟨_, rfl⟩
    rw [← hk] at hlc hn hlt ⊢
    clear hk
    have hal := one_new w (.cells #[.bool false, .int .i64 0, .int .i64 0, .slice none 0 0, .int .i64 0] 53)
    go_enter Try.func17, Try.ntmps17
    go_upto_region 1 with (fail)
    refine gen_world (S := fun u => Below w.heap.size w u ∧ u.heap[w.heap.size]? = some (.cells #[.bool false, .int .i64 0, .int .i64 0, .slice none 0 0, .int .i64 0] 53 (0, 0))) hal (fun u hu => ?_)
    obtain ⟨hbu, h1⟩ := hu
    have c0 := cell_later hbu e0
    have c1 := cell_later hbu e1
    have c2 := cell_later hbu e2
    have c3 := cell_later hbu e3
    have c4 := cell_later hbu e4
    obtain ⟨d0, d1, d2, d3, d4, f0, f1, f2, f3, f4⟩ := five_box h1
    have Hb := Lib.hid hbu
    have H1 := Lib.hid h1
    obtain ⟨x, hx⟩ : ∃ x, x = w.heap.size := ⟨_, rfl⟩
    rw [← hx] at d0 d1 d2 d3 d4 f0 f1 f2 f3 f4 hbn H1 ⊢
    have Hx := Lib.hid hx
    clear hal hbu h1 hb e0 e1 e2 e3 e4 hx
    go_wp2
    obtain ⟨q, hq⟩ := set5 H1.out (.bool is) (.int .i64 en) (.int .i64 far) (.slice ao' tree.length cap') (.int .i64 err)
    obtain ⟨q0, q1, q2, q3, q4, -⟩ := five_box q
    refine bodyPost_ret (v := .agg #[.bool is, .int .i64 en, .int .i64 far, .slice ao' tree.length cap', .int .i64 err]) (by simp [results, Try.f17, go_sem, q0, q1, q2, q3, q4]) rfl ⟨rfl, Below.keeps Hb.out hq (Nat.le_of_eq Hx.out.symm)⟩
  · rw [atA_ge hn]
    unfold anv An.none
    have hlt : ¬ (n : Int) < l.length := by omega
    clear h H
    obtain ⟨k, hk⟩ : ∃ k, k = l.length := ⟨_, rfl⟩
    rw [← hk] at hn hlt ⊢
    clear hk
    go_enter Try.func17, Try.ntmps17
    go_upto_region 1 with (fail)
    refine gen_world (S := fun u => Below w.heap.size w u ∧ u.heap[w.heap.size]? = some (.cells #[.bool false, .int .i64 0, .int .i64 0, .slice none 0 0, .int .i64 0] 53 (0, 0))) (one_new w _) (fun u hu => ?_)
    obtain ⟨hbu, h1⟩ := hu
    obtain ⟨d0, d1, d2, d3, d4, f0, f1, f2, f3, f4⟩ := five_box h1
    have Hb := Lib.hid hbu
    have H1 := Lib.hid h1
    obtain ⟨x, hx⟩ : ∃ x, x = w.heap.size := ⟨_, rfl⟩
    rw [← hx] at d0 d1 d2 d3 d4 f0 f1 f2 f3 f4 H1 ⊢
    have Hx := Lib.hid hx
    clear hbu h1 hx
    go_wp2
    obtain ⟨q, hq⟩ := set5 H1.out (.bool false) (.int .i64 0) (.int .i64 (-1)) (.slice none 0 0) (.int .i64 0)
    obtain ⟨q0, q1, q2, q3, q4, -⟩ := five_box q
    refine bodyPost_ret (v := .agg #[.bool false, .int .i64 0, .int .i64 (-1), .slice none 0 0, .int .i64 0]) (by simp [results, Try.f17, go_sem, q0, q1, q2, q3, q4]) rfl ⟨rfl, Below.keeps Hb.out hq (Nat.le_of_eq Hx.out.symm)⟩

set_option maxHeartbeats 1000000 in
theorem st_new (w : World) (base : Nat) (hb : base ≤ w.heap.size) :
    Calls Try.prog 19 #[] w fun e w' => e = .returned (.pointer (some ⟨w.heap.size + 1, 0, none⟩)) ∧ StIs base w' (w.heap.size + 1) w.heap.size (.slice none 0 0) [] ∧ Below w.heap.size w w' := by
  have hmk : (Instr.makeMap 65 none).run Try.prog w = .ok (.map (some w.heap.size)) (w.alloc (.map #[] 0)) := by
    simp [Instr.makeMap, Result.andThen]
  go_enter Try.func19, Try.ntmps19
  go_wp2
  go_ret
  obtain ⟨hb', h1, h2⟩ := two_new w (.map #[] 0) (.cells #[.slice none 0 0, .map (some w.heap.size)] 67)
  exact ⟨rfl, ⟨h2, ⟨by simp, .inl ⟨rfl, rfl⟩⟩, ⟨#[], 0, h1, by simp⟩, by simp, by simp, by simp, by omega, hb, by simp⟩, hb'⟩

/-- what is read: the end, the level, the tree, the state. -/
def rdOf (f : Fd) (lev : Int) : Int × Int × List Tw × Int := if f.is = true ∧ f.lev ≤ lev then (f.en, f.lev, f.tree, 3) else (0, 0, [], 2)
theorem st_Read {base s m : Nat} {sv : Value} {F : Live} {p : Pr} {f : Fd} (lev : Int) (w : World) (h : StIs base w s m sv F) (hm : (p, f) ∈ F) (hl : f.tree.length ≤ 1000000) :
    Calls Try.prog 25 #[.pointer (some ⟨s, 0, none⟩), .int .i64 p.1, .int .i64 p.2, .int .i64 lev] w fun e w' => (∃ v', e = .returned (.tuple #[.agg #[.int .i64 (rdOf f lev).1, .int .i64 (rdOf f lev).2.1, v'], .int .i64 (rdOf f lev).2.2.2]) ∧ TwIn w' v' (rdOf f lev).2.2.1) ∧ Below w.heap.size w w' := by
  by_cases hg : f.is = true ∧ f.lev ≤ lev
  · simp only [rdOf, if_pos hg]
    exact st_gives lev w h hm hl hg
  · simp only [rdOf, if_neg hg]
    exact (st_fails lev w h hm hl hg).mono fun e w' ⟨he, hb⟩ => ⟨⟨_, he, TwIn.nil w'⟩, hb⟩
end Go.Proofs.Ytebgleehmgmfbaa
