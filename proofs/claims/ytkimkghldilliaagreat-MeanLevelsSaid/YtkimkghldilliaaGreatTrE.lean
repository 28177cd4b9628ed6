/-
  tree.Right: the stack in memory.
-/
import Derived.Test.YtkimkghldilliaaGreatTrD
import Derived.Test.YtkimkghldilliaaGreatRow
import Derived.BigRegion
namespace Go.Proofs.YtkimkghldilliaaGreat
open Go.RowKit Go.Lib

def opc (o : Op) : List Value := [.int .i64 o.left, .int .i64 o.sf, .int .i64 o.st, .int .i64 o.to]
theorem opc_len (o : Op) : (opc o).length = 4 := rfl
theorem opc_one (o : Op) : ∀ u ∈ opc o, u.oneCell' = true := by intro u hu; simp [opc] at hu; rcases hu with rfl | rfl | rfl | rfl <;> rfl
theorem Tryz.infoOpen : (Tryz.prog.info? 204).map (fun i => (i.zero, i.size, i.bytes)) = some (some (.agg #[.int .i64 0, .int .i64 0, .int .i64 0, .int .i64 0]), 4, 32) := by kernel_rfl
def okO (o : Op) : Prop := 0 ≤ o.left ∧ o.left ≤ 9223372036854775807 ∧ 0 ≤ o.sf ∧ o.sf ≤ o.st
/-- numbers that fit. -/
def twOk (t : Tw) : Prop := t.to ≤ 9223372036854775807 ∧ t.kids ≤ 9223372036854775807
/-- the stack in memory, its top last. -/
structure Stk (base : Nat) (wr : World) (v : Value) (S : List Op) : Prop where
  own : wr.ownsRow base 204 4 v S.length (S.reverse.flatMap opc)
  ok : ∀ o ∈ S, okO o
theorem Stk.later {base : Nat} {w w' : World} {v : Value} {S : List Op} (h : Stk base w v S) (hb : Below w.heap.size w w') : Stk base w' v S :=
  ⟨(Keeps.ofNew hb (fun _ => False)).row h.own (fun _ _ h => h), h.ok⟩
theorem Stk.open {base : Nat} {w : World} {v : Value} {o : Op} {S : List Op} (h : Stk base w v (o :: S)) : ∃ g cap, v = .slice (some ⟨g, 0, none⟩) (S.length + 1) cap ∧ S.length + 1 ≤ cap ∧ cap ≤ maxLen ∧ base ≤ g ∧ g < w.heap.size ∧
    w.cell? ⟨g, S.length * 4, none⟩ = some (.int .i64 o.left) ∧ w.cell? ⟨g, S.length * 4 + 1, none⟩ = some (.int .i64 o.sf) ∧ w.cell? ⟨g, S.length * 4 + 2, none⟩ = some (.int .i64 o.st) ∧ w.cell? ⟨g, S.length * 4 + 3, none⟩ = some (.int .i64 o.to) ∧
    w.frozen? ⟨g, S.length * 4, none⟩ = false ∧ w.frozen? ⟨g, S.length * 4 + 3, none⟩ = false := by
  have hown := h.own
  obtain ⟨g, cap, rfl⟩ := own_shape hown (by simp)
  have hi : S.length < (o :: S).reverse.length := by simp
  have hget : (o :: S).reverse[S.length]'hi = o := by simp
  have hc := fun j hj => own_cellC opc_len hown S.length hi j hj
  rw [hget] at hc
  obtain ⟨-, hb, cur, hg, h1, h2, -⟩ := own_open hown
  exact ⟨g, cap, rfl, h1, h2, hb, lt_of_block hg, (hc 0 (by omega)).1, (hc 1 (by omega)).1, (hc 2 (by omega)).1, (hc 3 (by omega)).1, (hc 0 (by omega)).2, (hc 3 (by omega)).2⟩
theorem Stk.blk {base : Nat} {w : World} {g n cap : Nat} {o : Op} {S : List Op} (h : Stk base w (.slice (some ⟨g, 0, none⟩) n cap) (o :: S)) : ∃ cur, w.heap[g]? = some (.cells cur 204 (0, 0)) := by
  obtain ⟨g', cap', cur, hv, hb, hg, -⟩ := h.own.2.resolve_left (fun h => by simp at h)
  simp only [Value.slice.injEq, Option.some.injEq, Addr.mk.injEq] at hv
  obtain ⟨⟨rfl, -⟩, -, rfl⟩ := hv
  exact ⟨_, hg⟩
theorem Stk.pop {base : Nat} {w : World} {g n cap : Nat} {o : Op} {S : List Op} (h : Stk base w (.slice (some ⟨g, 0, none⟩) n cap) (o :: S)) (hn : n = S.length + 1) : Stk base w (.slice (some ⟨g, 0, none⟩) S.length cap) S := by
  have hown := h.own
  rw [show (o :: S).length = n from by simp [hn]] at hown
  have := own_takeC opc_len (by omega) hown (n1 := S.length) (by omega)
  refine ⟨?_, fun x hx => h.ok x (by simp [hx])⟩
  rwa [List.reverse_cons, List.take_left' (by simp)] at this
theorem Stk.set {base : Nat} {w : World} {g n cap : Nat} {o : Op} {S : List Op} (h : Stk base w (.slice (some ⟨g, 0, none⟩) n cap) (o :: S)) (hn : n = S.length + 1) (a b : Int) (ha : 0 ≤ a ∧ a ≤ 9223372036854775807) :
    Stk base ((w.setCell ⟨g, S.length * 4, none⟩ (.int .i64 a)).setCell ⟨g, S.length * 4 + 3, none⟩ (.int .i64 b)) (.slice (some ⟨g, 0, none⟩) n cap) (⟨a, o.sf, o.st, b⟩ :: S) := by
  have hown := h.own
  rw [show (o :: S).length = n from by simp [hn]] at hown
  have hi : S.length < (o :: S).reverse.length := by simp
  have h1 := own_setC opc_len hown S.length hi 0 (by omega) ⟨a, o.sf, o.st, o.to⟩ (.int .i64 a) (by simp [opc])
  have h2 := own_setC opc_len h1 S.length (by simp) 3 (by omega) ⟨a, o.sf, o.st, b⟩ (.int .i64 b) (by simp [opc])
  have h3 := h.ok o (by simp)
  refine ⟨?_, fun x hx => ?_⟩
  · rw [show (⟨a, o.sf, o.st, b⟩ :: S : List Op).length = n from by simp [hn]]
    have e : ((o :: S).reverse.set S.length ⟨a, o.sf, o.st, o.to⟩).set S.length ⟨a, o.sf, o.st, b⟩ = (⟨a, o.sf, o.st, b⟩ :: S : List Op).reverse := by
      rw [List.set_set, List.reverse_cons, List.reverse_cons, List.set_append_right _ _ (by simp)]
      simp
    rw [← e]
    exact h2
  · rcases List.mem_cons.1 hx with rfl | hx
    · exact ⟨ha.1, ha.2, h3.2.2.1, h3.2.2.2⟩
    · exact h.ok x (by simp [hx])
theorem Stk.keep {base : Nat} {w w' : World} {v : Value} {S : List Op} (h : Stk base w v S) {T : Nat → Prop} (hk : Keeps T w w') (hn : ∀ k, v.ownBlock = some k → ¬ T k) : Stk base w' v S := ⟨hk.row h.own hn, h.ok⟩
/-- what is to be told from k on with this stack. -/
def goB (l : List Tw) (k : Nat) (S : List Op) : Bool := match runS (l.drop k) S with
  | some S' => doneS S'
  | none => false
def rightB (l : List Tw) : Bool := goB l 0 [⟨l.length, 0, 9223372036854775807, 0⟩]
theorem rightB_iff (l : List Tw) : rightB l = true ↔ RightP l := by
  rw [← right_run]
  unfold rightB goB
  rw [List.drop_zero]
  cases runS l [⟨l.length, 0, 9223372036854775807, 0⟩] with
  | none => simp
  | some S => simp
theorem goB_pops (l : List Tw) {k : Nat} (hk : k < l.length) (S S2 : List Op) (h : pops S2 = pops S) : goB l k S2 = goB l k S := by
  unfold goB
  rw [drop_at l hk]
  simp only [runS, stepS, h]
theorem goB_no (l : List Tw) {k : Nat} (hk : k < l.length) (o : Op) (S : List Op) (h0 : o.left ≠ 0) (h : takesB o (atT l k) = false) : goB l k (o :: S) = false := by
  unfold goB
  rw [drop_at l hk]
  simp [runS, stepS, pops, h0, h]
theorem goB_yes (l : List Tw) {k : Nat} (hk : k < l.length) (o : Op) (S : List Op) (h0 : o.left ≠ 0) (h : takesB o (atT l k) = true) :
    goB l k (o :: S) = goB l (k + 1) (⟨(atT l k).kids, (atT l k).fr, (atT l k).to, (atT l k).fr⟩ :: ⟨o.left - 1, o.sf, o.st, (atT l k).to⟩ :: S) := by
  unfold goB
  rw [drop_at l hk]
  simp [runS, stepS, pops, h0, h]
/-- all but the bottom one are done. -/
def restB (S : List Op) : Bool := S.reverse.tail.all fun o => o.left == 0
theorem goB_end (l : List Tw) (S : List Op) (h : S ≠ []) : goB l l.length S = restB S := by
  unfold goB restB
  rw [List.drop_length]
  simp only [runS]
  have key : ∀ S : List Op, S ≠ [] → doneS S = (S.dropLast.all fun o => o.left == 0) := fun S => by
    induction S with
    | nil => intro h; exact absurd rfl h
    | cons o S ih =>
      intro _
      cases S with
      | nil => rfl
      | cons o2 S =>
        rw [show doneS (o :: o2 :: S) = (decide (o.left = 0) && doneS (o2 :: S)) from rfl, ih (by simp)]
        simp
        rfl
  rw [key S h, List.tail_reverse, List.all_reverse]
theorem Stk.push {base : Nat} {w : World} {v : Value} {n : Nat} {o : Op} {S : List Op} (hn : n = S.length) (h : w.ownsRow base 204 4 v (n + 1) (S.reverse.flatMap opc ++ opc o)) (ho : okO o) (hS : ∀ x ∈ S, okO x) : Stk base w v (o :: S) := by
  subst hn
  refine ⟨?_, fun x hx => ?_⟩
  · rw [List.reverse_cons, List.flatMap_append]
    simpa using h
  · rcases List.mem_cons.1 hx with rfl | hx
    · exact ho
    · exact hS x hx
/-- the row behind its first entry. -/
theorem Stk.tail {base : Nat} {w : World} {g n cap : Nat} {o : Op} {S : List Op} (h : Stk base w (.slice (some ⟨g, 0, none⟩) n cap) (o :: S)) (hn : n = S.length + 1) (off cap2 : Nat) (ho : S.length = 0 ∨ off = 4) (hc2 : n - 1 ≤ cap2 ∧ cap2 ≤ maxLen) :
    RowsAt w 4 (.slice (some ⟨g, off, none⟩) (n - 1) cap2) ((o :: S).reverse.tail.map opc) := by
  have hown := h.own
  rw [show (o :: S).length = n from by simp [hn]] at hown
  obtain ⟨-, hb, cur, hg, h1, h2, -⟩ := own_open hown
  have hl : (o :: S).reverse.tail.length = n - 1 := by simp [hn]
  refine ⟨some ⟨g, off, none⟩, g, off, cap2, by simp [hn], by simpa [hn] using hc2.1, hc2.2, (fun h => by cases h), fun _ => ⟨rfl, lt_of_block hg⟩, fun e he => ?_, fun i hi j hj => ?_⟩
  · obtain ⟨x, -, rfl⟩ := List.mem_map.1 he
    rfl
  · rw [List.length_map] at hi
    have hi2 : i + 1 < (o :: S).reverse.length := by
      rw [hl] at hi
      simp only [List.length_reverse, List.length_cons]
      omega
    rcases ho with ho | rfl
    · rw [hl] at hi; omega
    · have := (own_cellC opc_len hown (i + 1) hi2 j hj).1
      rw [List.getElem_map, List.getElem_tail, ← this]
      congr 2
      omega
def lenOf : Value → Nat
  | .slice _ n _ => n
  | _ => 0
end Go.Proofs.YtkimkghldilliaaGreat
