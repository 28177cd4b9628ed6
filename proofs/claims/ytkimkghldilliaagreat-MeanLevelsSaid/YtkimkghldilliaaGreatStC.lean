/-
  The store: what changes it.
-/
import Derived.Test.YtkimkghldilliaaGreatStB
import Derived.Deep.RegionLaw
import Derived.Deep.AppendLies
namespace Go.Proofs.YtkimkghldilliaaGreat
open Go.RowKit Go.Lib

theorem Tryz.infoPair : (Tryz.prog.info? 175).map (fun i => (i.zero, i.size, i.bytes)) = some (some (.agg #[.int .i64 0, .int .i64 0]), 2, 16) := by kernel_rfl

/-- what push leaves. -/
theorem push_close [Watch] {base s m : Nat} {sv sv' : Value} {F : Live} {w w1 w2 : World} {xs : List Value} {n : Nat} (h : StIs base w s m sv F) (hb : Below w.heap.size w w1)
    (hown : w2.ownsRow base 175 2 sv' n xs) (hgrow : w1.grownBy w2 sv.ownBlock) :
    (w2.setCell ⟨s, 0, none⟩ sv').heap[s]? = some (.cells #[sv', .map (some m)] 130 (0, 0)) ∧ (w2.setCell ⟨s, 0, none⟩ sv').ownsRow base 175 2 sv' n xs ∧ KeepT base [130, 175] false w (w2.setCell ⟨s, 0, none⟩ sv') ∧ Keeps (fun k => k = s ∨ sv.ownBlock = some k) w (w2.setCell ⟨s, 0, none⟩ sv') := by
  have hK2 : Keeps (fun k => sv.ownBlock = some k) w w2 := (Keeps.ofNew hb _).grown hgrow (fun k hk => hk)
  have hne := own_ne' h.blk (by decide) h.row
  have h3' := hK2.obj h.blk hne
  have hga := own_ne' h3' (by decide) hown
  have hset : Keeps (fun k => k = s) w2 (w2.setCell ⟨s, 0, none⟩ sv') := (Keeps.refl (fun k => k = s) w2).setCell (p := ⟨s, 0, none⟩) rfl _
  refine ⟨block_setCell' h3', hset.row hown (fun k hk e => hga (by rw [hk, e])), ?_, (hK2.mono fun _ _ h => .inr h).trans (hset.mono fun _ _ h => .inl h)⟩
  have hk : KeepT base [130, 175] false w w2 := Keeps.mono hK2 fun k _ hk => by
    rcases h.row.2 with ⟨e, _⟩ | ⟨g, cap, cur, e, hg, hc, _⟩
    · rw [e] at hk; simp [Value.ownBlock] at hk
    · rw [e] at hk
      simp [Value.ownBlock] at hk
      subst hk
      exact ⟨hg, by unfold Tyb; rw [hc]; simp⟩
  exact KeepT.setCell hk (p := ⟨s, 0, none⟩) h3' (by simp) (by simp) h.bs _

set_option maxHeartbeats 1000000 in
theorem st_push [Watch] {base s m : Nat} {sv : Value} {F : Live} (p : Pr) (w : World) (h : StIs base w s m sv F) (hn : F.length < 100000) :
    Calls Tryz.prog 97 #[.pointer (some ⟨s, 0, none⟩), pkv p] w fun e w' => e = .returned (.tuple #[]) ∧ ∃ sv', w'.heap[s]? = some (.cells #[sv', .map (some m)] 130 (0, 0)) ∧ w'.ownsRow base 175 2 sv' (F.length + 1) (pcs F ++ [.int .i64 p.1, .int .i64 p.2]) ∧ KeepT base [130, 175] false w w' ∧ Keeps (fun k => k = s ∨ sv.ownBlock = some k) w w' := by
  have H := Lib.hid h
  have hle := h.le
  obtain ⟨i0, hi0, hz0, hz1, hz2⟩ := info_parts Tryz.infoPair
  clear h
  unfold pkv
  go_enter Tryz.func97, Tryz.ntmps97
  go_wp2_with fail
  refine gen_world (S := fun u => Below w.heap.size w u ∧ u.heap[w.heap.size]? = some (.cells #[.int .i64 p.1, .int .i64 p.2] 175 (0, 0))) (one_new w _) (fun u hu => ?_)
  obtain ⟨hbu, hbx⟩ := hu
  have Hu := Lib.hid (H.out.later hbu)
  have HBu := Lib.hid hbu
  obtain ⟨c1, -, f1, -⟩ := Hu.out.cells
  obtain ⟨r0, r1, -, -⟩ := box_cells hbx
  have hru := lt_of_block Hu.out.blk
  have hne := own_ne' Hu.out.blk (by decide) Hu.out.row
  have Hne := Lib.hid hne
  clear hbu hbx hne
  go_region_law (refine step_append_lies _ (by rfl) _ _ _ (by rfl) base 175 i0 _ 2 16 Tryz.underlying126 hi0 hz0 hz1 hz2 rfl (by omega) sv F.length (pcs F) (by rfl) (((Keeps.drew (Keeps.refl (fun _ => False) u)).row Hu.out.row (fun _ _ h => h)).alloc _) ⟨u.heap.size, 0, none⟩ 1 1 [.int .i64 p.1, .int .i64 p.2] (by rfl) (by rfl) (World.news_of_block (cs := #[.int .i64 p.1, .int .i64 p.2]) (t := 175) (fr := (0, 0)) (heap_alloc_new u.drew _)) (by simp [Value.oneCell']) (by omega) (by unfold maxLen; omega) (by omega) (by have := H.out.bs; simp <;> omega) (u.heap.size + 1) (by simp) ?_; intro g cap w2 hown2 hgrow hat hlt; have e0 := (hgrow.cell_far ⟨s, 0, none⟩ (by simp <;> omega) (Ne.symm Hne.out)).trans ((World.cell?_alloc_old u.drew _ ⟨s, 0, none⟩ (by simp <;> omega)).trans c1); have e1 := (hgrow.frozen_far ⟨s, 0, none⟩ (by simp <;> omega) (Ne.symm Hne.out)).trans ((Below.frozen (p := ⟨s, 0, none⟩) ((Below.refl u.heap.size u).drew.alloc (Nat.le_refl _) _) hru).trans f1))
  all_goals go_wp2
  all_goals go_end0
  all_goals
    obtain ⟨q1, q2, q3, q4⟩ := push_close H.out (HBu.out.drew.alloc (by have := HBu.out.size; exact this) _) hown2 hgrow
    exact ⟨rfl, _, q1, q2, q3, q4⟩

set_option maxHeartbeats 2000000 in
theorem st_twice {base s m : Nat} {sv : Value} {F : Live} {p : Pr} {f : Fd} (w : World) (h : StIs base w s m sv F) (hm : (p, f) ∈ F) :
    Calls Tryz.prog 52 #[.pointer (some ⟨s, 0, none⟩), .int .i64 p.1, .int .i64 p.2] w fun e w' => e = .returned (.int .i64 8) ∧ Below w.heap.size w w' := by
  have H := Lib.hid h
  have hap : (F.map fun x => (x.1, fdv x.2)).Pairwise fun a b => a.1 ≠ b.1 := by rw [List.pairwise_map]; exact h.apart
  have hwf : ∀ x ∈ (F.map fun x => (x.1, fdv x.2)), W64 x.1 := by
    intro x hx
    obtain ⟨y, hy, rfl⟩ := List.mem_map.1 hx
    exact h.wf y hy
  have hlk := fun (wq : World) (hq : StIs base wq s m sv F) => map_hit (w := wq) hq.map hwf (List.mem_map.2 ⟨_, hm, rfl⟩) hap true
  have Hlk := Lib.hid hlk
  obtain ⟨ao, cap, hv⟩ := (h.trees _ hm).1.val
  clear h hm hap hwf hlk
  obtain ⟨is, en, fl, tr, v⟩ := f
  simp only at hv
  subst hv
  unfold fdv pkv at Hlk
  simp only at Hlk
  go_enter Tryz.func52, Tryz.ntmps52
  go_wp2_with (go_at_call 96; refine (st_made _ H.out).mono ?_; rintro e w' ⟨rfl, rfl⟩)
  refine gen_world (S := fun u => Below w.heap.size w u ∧ u.heap[w.heap.size]? = some (.cells #[.int .i64 p.1, .int .i64 p.2] 175 (0, 0))) (one_new w _) (fun u hu => ?_)
  obtain ⟨hb, h1⟩ := hu
  have hu := H.out.later hb
  have hz := (Below.refl u.heap.size u).alloc (Nat.le_refl _) (.cells #[.bool false, .int .i64 0, .int .i64 0, .slice none 0 0] 177)
  have hu1 := hu.later hz
  have hu2 := hu1.later ((Below.refl _ _).drew)
  obtain ⟨-, c1, -, -⟩ := hu1.cells
  obtain ⟨d0, d1, -, -⟩ := box_cells ((hz.block _ (lt_of_block h1)).trans h1)
  obtain ⟨-, c2, -, -⟩ := hu.cells
  obtain ⟨e0, e1, -, -⟩ := box_cells h1
  have hlk1 := Hlk.out _ hu2
  have hlk2 := Hlk.out _ (hu.later ((Below.refl u.heap.size u).drew))
  have Hb := Lib.hid hb
  clear hb h1 hu hu1 hu2 Hlk H hz
  go_region
  all_goals go_wp2
  all_goals go_ret
  all_goals exact ⟨rfl, (Hb.out.alloc Hb.out.size _).drew⟩
theorem gen_any {G : World → Prop} {w : World} (S : World → Prop) (h : S w) (k : ∀ w', S w' → G w') : G w := k w h
theorem begin_close [Watch] {base s m : Nat} {sv sv' : Value} {F : Live} {p : Pr} {f : Fd} {w w3 w4 : World} (h : StIs base w s m sv F) (hk : KeepT base [130, 175] false w w3) (hb : w3.heap[s]? = some (.cells #[sv', .map (some m)] 130 (0, 0)))
    (hr : w3.ownsRow base 175 2 sv' (F.length + 1) (pcs F ++ [.int .i64 p.1, .int .i64 p.2])) (hmi : MapIs w3 m (F.map fun x => (x.1, fdv x.2))) (hm : MapIs w4 m ((F.map fun x => (x.1, fdv x.2)) ++ [(p, fdv f)])) (hk2 : Keeps (· = m) w3 w4) (hp : ∀ x ∈ F, x.1 ≠ p) (hw : W64 p) (hn : F.length < 100000) (ht : TwIn w3 f.v f.tree) :
    StIs base w4 s m sv' (F ++ [(p, f)]) ∧ KeepT base [130, 175] true w w4 := by
  have h34 : KeepT base [] true w3 w4 := Keeps.mono hk2 fun k _ e => by
    subst e
    obtain ⟨es, clock, hb, _⟩ := hmi
    exact ⟨h.bm, by unfold Tyb; rw [hb]⟩
  refine ⟨⟨h34.cells hb (by simp), ?_, by simpa using hm, ?_, ?_, ?_, h.bs, h.bm, by simp; omega⟩, KeepT.trans (KeepT.mono hk (fun _ h => h) (fun h => by simp at h)) (KeepT.mono h34 (fun _ h => by simp at h) (fun h => h))⟩
  · have e : pcs (F ++ [(p, f)]) = pcs F ++ [.int .i64 p.1, .int .i64 p.2] := by simp [pcs]
    rw [e, List.length_append]
    refine hk2.row hr fun k hkk e => ?_
    subst e
    obtain ⟨es, clock, hb, _⟩ := hmi
    rcases hr.2 with ⟨e, _⟩ | ⟨g, cap, cur, e, _, hc, _⟩
    · rw [e] at hkk; simp [Value.ownBlock] at hkk
    · rw [e] at hkk
      simp [Value.ownBlock] at hkk
      subst hkk
      rw [hb] at hc
      simp at hc
  · intro x hx
    rcases List.mem_append.1 hx with hx | hx
    · exact ((h.trees x hx).keepT hk (by simp)).keepT h34 (by simp)
    · simp at hx; subst hx
      exact ht.keepT h34 (by simp)
  · rw [List.pairwise_append]
    exact ⟨h.apart, by simp, fun a ha b hb => by simp at hb; subst hb; exact hp a ha⟩
  · intro x hx
    rcases List.mem_append.1 hx with hx | hx
    · exact h.wf x hx
    · simp at hx; subst hx; exact hw

set_option maxHeartbeats 2000000 in
theorem st_begin [Watch] {base s m : Nat} {sv : Value} {F : Live} {p : Pr} (w : World) (h : StIs base w s m sv F) (hm : ∀ x ∈ F, x.1 ≠ p) (hw : W64 p) (hn : F.length < 100000) :
    Calls Tryz.prog 52 #[.pointer (some ⟨s, 0, none⟩), .int .i64 p.1, .int .i64 p.2] w fun e w' => e = .returned (.int .i64 0) ∧ (∃ sv', StIs base w' s m sv' (F ++ [(p, Fd.none)])) ∧ KeepT base [130, 175] true w w' := by
  have H := Lib.hid h
  have hwf : ∀ x ∈ (F.map fun x => (x.1, fdv x.2)), W64 x.1 := by
    intro x hx
    obtain ⟨y, hy, rfl⟩ := List.mem_map.1 hx
    exact h.wf y hy
  have hm2 : ∀ x ∈ (F.map fun x => (x.1, fdv x.2)), x.1 ≠ p := by
    intro x hx
    obtain ⟨y, hy, rfl⟩ := List.mem_map.1 hx
    exact hm y hy
  have hlk := fun (wq : World) (hq : StIs base wq s m sv F) => map_miss (w := wq) hq.map hwf hw hm2 true
  have Hlk := Lib.hid hlk
  have hnew := fun (wq : World) (hq : MapIs wq m (F.map fun x => (x.1, fdv x.2))) => map_new (w := wq) hq hwf hw hm2 (fdv Fd.none)
  have Hnew := Lib.hid hnew
  have HM := Lib.hid hm
  clear h hwf hlk hnew hm hm2
  unfold pkv at Hlk
  simp only at Hlk
  go_enter Tryz.func52, Tryz.ntmps52
  go_wp2_with (go_at_call 96; refine (st_made _ H.out).mono ?_; rintro e w' ⟨rfl, rfl⟩)
  refine gen_world (S := fun u => Below w.heap.size w u ∧ u.heap[w.heap.size]? = some (.cells #[.int .i64 p.1, .int .i64 p.2] 175 (0, 0))) (one_new w _) (fun u hu => ?_)
  obtain ⟨hb, h1⟩ := hu
  have hu := H.out.later hb
  have hz := (Below.refl u.heap.size u).alloc (Nat.le_refl _) (.cells #[.bool false, .int .i64 0, .int .i64 0, .slice none 0 0] 177)
  have hu1 := hu.later hz
  have hu2 := hu1.later ((Below.refl _ _).drew)
  obtain ⟨-, c1, -, -⟩ := hu1.cells
  obtain ⟨d0, d1, -, -⟩ := box_cells ((hz.block _ (lt_of_block h1)).trans h1)
  obtain ⟨-, c2, -, -⟩ := hu.cells
  obtain ⟨e0, e1, -, -⟩ := box_cells h1
  have hlk1 := Hlk.out _ hu2
  have hlk2 := Hlk.out _ (hu.later ((Below.refl u.heap.size u).drew))
  have Hb := Lib.hid hb
  have H1 := Lib.hid h1
  clear hb h1 hu hu1 hu2 Hlk hz
  go_region
  all_goals
    refine gen_any (S := fun v => Below w.heap.size w v ∧ v.heap[w.heap.size]? = some (.cells #[.int .i64 p.1, .int .i64 p.2] 175 (0, 0))) ⟨(Hb.out.alloc Hb.out.size _).drew, (((Below.refl u.heap.size u).alloc (Nat.le_refl _) _).drew.block _ (lt_of_block H1.out)).trans H1.out⟩ (fun v hv => ?_)
    obtain ⟨hb, h1⟩ := hv
    clear c1 d0 d1 c2 e0 e1 hlk1 hlk2 Hb H1
    obtain ⟨d0, d1, -, -⟩ := box_cells h1
    have Hb := Lib.hid hb
    have H1 := Lib.hid h1
    clear hb h1
    have Hv := Lib.hid ((H.out.later Hb.out).later ((Below.refl v.heap.size v).drew))
    go_wp2_with fail
    go_region_with (refine (st_push p v.drew Hv.out hn).mono ?_; rintro e w3 ⟨rfl, sv', q1, q2, q3, q4⟩)
    have hmi := KeepT.map q3 Hv.out.map
    have h3 := q4.obj H1.out (by
      have := H.out.row.lt
      have := H.out.blk
      intro h
      rcases h with h | h
      · exact absurd (lt_of_block H.out.blk) (by omega)
      · have := (H.out.row.lt _ h).2; omega)
    obtain ⟨w4, hrun, hm4, hk4⟩ := Hnew.out w3.drew hmi
    unfold pkv fdv Fd.none at hrun
    simp only at hrun
    clear d0 d1
    obtain ⟨d0, d1, -, -⟩ := box_cells h3
    obtain ⟨-, c1, -, -⟩ := box_cells q1
    have Q1 := Lib.hid q1
    have Q2 := Lib.hid q2
    have Q3 := Lib.hid q3
    have Hmi := Lib.hid hmi
    have Hm4 := Lib.hid hm4
    have Hk4 := Lib.hid hk4
    clear q1 q2 q3 q4 hmi h3 hm4 hk4
    go_wp2_with fail
    go_region
    go_wp2
    go_ret
    obtain ⟨r1, r2⟩ := begin_close Hv.out Q3.out Q1.out Q2.out Hmi.out Hm4.out ((Keeps.refl (· = m) w3).drew.trans Hk4.out) HM.out hw hn (TwIn.nil _)
    exact ⟨rfl, ⟨_, r1⟩, KeepT.trans (KeepT.ofBelow Hb.out.drew) r2⟩

/-- delete, as one step of a region that draws. -/
theorem step_delete {P : Program} {ops : Array Oper} {o : Oper} {a : Act} {w : World} {K : Act → World → Prop} {Q : Exit → Act → World → Prop} {E : Prop}
    (hg : o.guard = none) (m x : Operand) (t k : TypeId) (hop : o.op = Op.call { callee := Callee.builtin Builtin.delete, args := #[m, x], argTypes := #[t, k] })
    (vm vx : Value) (hm : a.eval m = vm) (hx : a.eval x = vx) (w' : World) (hrun : (Builtin.delete_ #[t, k] o.type #[vm, vx]).run P w = .ok (.tuple #[]) w')
    (hK : K (a.put o.dst (.tuple #[])) w') :
    if Region.wanted o (yielded ops a.tmps) = true then Oper.wp P o a w K Q else E := by
  have hw : Region.wanted o (yielded ops a.tmps) = true := by simp [Region.wanted, hg]
  rw [if_pos hw]
  unfold Oper.wp
  simp [execOp, hop, resolve, invoke, builtin, hm, hx, hrun, Result.andThen]
  exact hK

set_option maxRecDepth 100000 in
set_option maxHeartbeats 1000000 in
theorem st_pop {base s m : Nat} {sv : Value} {F : Live} {p : Pr} {f : Fd} (w : World) (h : StIs base w s m sv (F ++ [(p, f)])) :
    Calls Tryz.prog 138 #[.pointer (some ⟨s, 0, none⟩)] w fun e w' => e = .returned (.tuple #[]) ∧ ∃ sv', w'.heap[s]? = some (.cells #[sv', .map (some m)] 130 (0, 0)) ∧ w'.ownsRow base 175 2 sv' F.length (pcs F) ∧ Keeps (fun k => k = s) w w' := by
  have H := Lib.hid h
  have hlen := h.le
  simp only [List.length_append, List.length_cons, List.length_nil] at hlen
  obtain ⟨c0, -, f0, -⟩ := h.cells
  obtain ⟨hml, hr⟩ := h.row
  rcases hr with ⟨_, h0⟩ | ⟨g, cap, cur, rfl, hg, hc, hn, hcm, hcs, hcur⟩
  · simp at h0
  simp only [List.length_append, List.length_cons, List.length_nil] at c0 hn
  have Hc := Lib.hid hc
  have Hcur := Lib.hid hcur
  have Hg := Lib.hid hg
  have Hcs := Lib.hid hcs
  have Hcm := Lib.hid hcm
  clear h hc hcur hml hg hcs hcm
  obtain ⟨k, hk⟩ : ∃ k, k = F.length := ⟨_, rfl⟩
  obtain ⟨n, hn2⟩ : ∃ n, n = k + 1 := ⟨_, rfl⟩
  simp only [Nat.zero_add] at c0 hn
  rw [← hk] at c0 hn hlen
  rw [← hn2] at c0 hn
  have hw : IntKind.i64.wrap ((n : Int) - 1) = (k : Int) := by rw [show (n : Int) - 1 = k by omega]; exact IntWalk.i64_in _ (by omega)
  have hkn : (k : Int) ≤ cap := by omega
  have hkn2 : k ≤ cap := by omega
  have Hk := Lib.hid hk
  clear hk hn2 hlen hn
  go_enter Tryz.func138, Tryz.ntmps138
  go_wp2_with fail
  go_region
  all_goals go_wp2
  all_goals go_end0
  have hown : w.ownsRow base 175 2 (.slice (some ⟨g, 0, none⟩) k cap) F.length (pcs F) := by
    refine ⟨pcs_len F, .inr ⟨g, cap, cur, by rw [Hk.out], Hg.out, Hc.out, by rw [← Hk.out]; omega, Hcm.out, Hcs.out, ?_⟩⟩
    have h2 := congrArg (List.take (F.length * 2)) Hcur.out
    have e : pcs (F ++ [(p, f)]) = pcs F ++ [.int .i64 p.1, .int .i64 p.2] := by simp [pcs]
    rw [List.take_take, e, List.take_left' (pcs_len F)] at h2
    rw [← h2]
    congr 1
    simp
  have hset : Keeps (fun k => k = s) w (w.setCell ⟨s, 0, none⟩ (.slice (some ⟨g, 0, none⟩) k cap)).drew := ((Keeps.refl (fun k => k = s) w).setCell (p := ⟨s, 0, none⟩) rfl _).drew
  have hne := own_ne' H.out.blk (by decide) hown
  exact ⟨rfl, _, block_setCell' H.out.blk, hset.row hown (fun k hk e => hne (by rw [hk, e])), hset⟩

theorem lets_close [Watch] {base s m : Nat} {sv sv' : Value} {F : Live} {p : Pr} {f : Fd} {w w3 w4 : World} (h : StIs base w s m sv (F ++ [(p, f)])) (hk : Keeps (fun k => k = s) w w3) (hb : w3.heap[s]? = some (.cells #[sv', .map (some m)] 130 (0, 0)))
    (hr : w3.ownsRow base 175 2 sv' F.length (pcs F)) (hmi : MapIs w3 m ((F.map fun x => (x.1, fdv x.2)) ++ [(p, fdv f)])) (hm : MapIs w4 m (F.map fun x => (x.1, fdv x.2))) (hk2 : Keeps (· = m) w3 w4) :
    StIs base w4 s m sv' F ∧ KeepT base [130] true w w4 := by
  have h34 : KeepT base [] true w3 w4 := Keeps.mono hk2 fun k _ e => by
    subst e
    obtain ⟨es, clock, hb, _⟩ := hmi
    exact ⟨h.bm, by unfold Tyb; rw [hb]⟩
  have h13 : KeepT base [130] false w w3 := Keeps.mono hk fun k _ e => by
    subst e
    exact ⟨h.bs, by unfold Tyb; rw [h.blk]; simp⟩
  have hle := h.le
  simp only [List.length_append, List.length_cons, List.length_nil] at hle
  refine ⟨⟨h34.cells hb (by simp), ?_, hm, ?_, ?_, ?_, h.bs, h.bm, by omega⟩, KeepT.trans (KeepT.mono h13 (fun _ h => h) (fun h => by simp at h)) (KeepT.mono h34 (fun _ h => by simp at h) (fun h => h))⟩
  · refine hk2.row hr fun k hkk e => ?_
    subst e
    obtain ⟨es, clock, hb, _⟩ := hmi
    rcases hr.2 with ⟨e, _⟩ | ⟨g, cap, cur, e, _, hc, _⟩
    · rw [e] at hkk; simp [Value.ownBlock] at hkk
    · rw [e] at hkk
      simp [Value.ownBlock] at hkk
      subst hkk
      rw [hb] at hc
      simp at hc
  · intro x hx
    exact ((h.trees x (List.mem_append_left _ hx)).keepT h13 (by simp)).keepT h34 (by simp)
  · exact (List.pairwise_append.1 h.apart).1
  · exact fun x hx => h.wf x (List.mem_append_left _ hx)

set_option maxHeartbeats 1000000 in
theorem st_lets [Watch] {base s m : Nat} {sv : Value} {F : Live} {p : Pr} {f : Fd} (w : World) (h : StIs base w s m sv (F ++ [(p, f)])) :
    Calls Tryz.prog 104 #[.pointer (some ⟨s, 0, none⟩), pkv p] w fun e w' => e = .returned (.int .i64 0) ∧ (∃ sv', StIs base w' s m sv' F) ∧ KeepT base [130] true w w' := by
  have H := Lib.hid h
  have hwf : ∀ x ∈ (F.map fun x => (x.1, fdv x.2)), W64 x.1 := by
    intro x hx
    obtain ⟨y, hy, rfl⟩ := List.mem_map.1 hx
    exact h.wf y (List.mem_append_left _ hy)
  have hm2 : ∀ x ∈ (F.map fun x => (x.1, fdv x.2)), x.1 ≠ p := by
    intro x hx
    obtain ⟨y, hy, rfl⟩ := List.mem_map.1 hx
    exact (List.pairwise_append.1 h.apart).2.2 y hy (p, f) (by simp)
  have hp := h.wf (p, f) (by simp)
  have hdel := fun (wq : World) (hq : MapIs wq m ((F.map fun x => (x.1, fdv x.2)) ++ [(p, fdv f)])) => (map_last (w := wq) hq hwf hp hm2).2
  have Hdel := Lib.hid hdel
  clear h hwf hm2 hp hdel
  unfold pkv at Hdel ⊢
  go_enter Tryz.func104, Tryz.ntmps104
  go_upto_region 1 with (fail)
  refine gen_world (S := fun u => Below w.heap.size w u ∧ u.heap[w.heap.size]? = some (.cells #[.int .i64 p.1, .int .i64 p.2] 175 (0, 0))) (one_new w _) (fun u hu => ?_)
  obtain ⟨hb, h1⟩ := hu
  have Hu := Lib.hid (H.out.later hb)
  have Hb := Lib.hid hb
  have H1 := Lib.hid h1
  have hne : w.heap.size ≠ s := by have := lt_of_block H.out.blk; omega
  have Hne := Lib.hid hne
  clear hb h1 hne
  go_wp2_with fail
  refine (st_pop _ Hu.out).mono ?_
  rintro e w3 ⟨rfl, sv', q1, q2, q3⟩
  have hmi : MapIs w3 m ((F.map fun x => (x.1, fdv x.2)) ++ [(p, fdv f)]) := by
    have := Hu.out.map.keeps q3 (fun e => by
      subst e
      obtain ⟨es, clock, hb, _⟩ := Hu.out.map
      rw [Hu.out.blk] at hb
      simp at hb)
    simpa using this
  have h3 := q3.obj H1.out Hne.out
  obtain ⟨w4, hrun, hm4, hk4⟩ := Hdel.out w3.drew hmi 0
  obtain ⟨d0, d1, -, -⟩ := box_cells h3
  obtain ⟨-, c1, -, -⟩ := box_cells q1
  have Q1 := Lib.hid q1
  have Q2 := Lib.hid q2
  have Q3 := Lib.hid q3
  have Hmi := Lib.hid hmi
  have Hm4 := Lib.hid hm4
  have Hk4 := Lib.hid hk4
  have Hrun := Lib.hid hrun
  clear q1 q2 q3 hmi h3 hm4 hk4 hrun
  go_wp2_with fail
  go_region_law (refine step_delete (by rfl) _ _ _ _ (by rfl) (.map (some m)) (.agg #[.int .i64 p.1, .int .i64 p.2]) (by rfl) (by rfl) w4 Hrun.out ?_)
  all_goals go_wp2
  all_goals go_ret
  all_goals obtain ⟨r1, r2⟩ := lets_close Hu.out Q3.out Q1.out Q2.out Hmi.out Hm4.out ((Keeps.refl (· = m) w3).drew.trans Hk4.out)
  all_goals exact ⟨rfl, ⟨_, r1⟩, KeepT.trans (KeepT.ofBelow Hb.out) r2⟩
end Go.Proofs.YtkimkghldilliaaGreat
