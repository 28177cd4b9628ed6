/-
  slices.DeleteFunc at spans.
-/
import Derived.Test.YtndminmefacmnaaSnK
namespace Go.Proofs.Ytndminmefacmnaa
open Go.RowKit Go.Lib

theorem run_clear_cells {P : Program} (w : World) (t e ty : TypeId) (z : Value) (ht : P.underlying t = some (.slice e)) (hv : ∀ w, (zeroValue e).run P w = .ok z w) (b o n c : Nat) (zs : List Value) (hz : (Builtin.zeroCells z.cells n).toList = zs) (h1 : ∀ u ∈ zs, u.oneCell' = true) (hn : 0 < n)
    (hc : ∀ j, j < zs.length → (w.cell? ⟨b, o + j, none⟩).isSome = true) (hf : ∀ j, j < zs.length → w.frozen? ⟨b, o + j, none⟩ = false) :
    (Builtin.clear_ #[t] ty #[.slice (some ⟨b, o, none⟩) n c]).run P w = .ok (.tuple #[]) (w.setCells b o zs) := by
  have hst := run_storeCells_cells (P := P) b o zs 0 w (by simpa using hc) (by simpa using hf) h1
  simp only [Nat.add_zero] at hst
  obtain ⟨m, rfl⟩ : ∃ m, n = m + 1 := ⟨n - 1, by omega⟩
  simp [Builtin.clear_, run_underlying ht, hv, hz, hst]
theorem wpList_clear_run {P : Program} (w : World) {ops : Array Oper} {rest : List Oper} {o : Oper} {a : Act} {Q : Exit → Act → World → Prop} (hgd : o.guard = none) (x : Operand) (t : TypeId)
    (ho : o.op = .call { callee := .builtin .clear, args := #[x], argTypes := #[t] }) (vx : Value) (hx : a.eval x = vx)
    (v' : Value) (w' : World) (hr : (Builtin.clear_ #[t] o.type #[vx]).run P w = .ok v' w') (h : wpList P ops Q rest (a.put o.dst v') w') : wpList P ops Q (o :: rest) a w := by
  refine wpList_plain hgd fun K hK => ?_
  unfold Oper.wp execOp
  simp only [ho, resolve, invoke, builtin, Sem.run_bind, Sem.run_pure, Result.andThen_ok, List.map_toArray, List.map_cons, List.map_nil, hx, hr]
  exact hK _ _ h
/-- cells from m on are written: the first m stay. -/
theorem own_cut {w : World} {B g n m cap : Nat} {l : List Sg} (h : w.ownsRow B 53 2 (.slice (some ⟨g, 0, none⟩) n cap) n (l.flatMap sgc)) (hm : m ≤ n) (vs : List Value) (hv : m * 2 + vs.length ≤ cap * 2) :
    (w.setCells g (m * 2) vs).ownsRow B 53 2 (.slice (some ⟨g, 0, none⟩) m cap) m ((l.take m).flatMap sgc) := by
  have h1 := own_takeC sgc_len (by omega) h hm
  obtain ⟨h0, hb, cur, hg, k1, k2, k3, ht⟩ := own_open h1
  have hh := heap_setCells_at vs (m * 2) w cur hg (by omega)
  have hcs : cur.toList.length = cap * 2 := by simpa using k3
  refine own_shut h0 hb hh k1 k2 ?_ ?_
  · rw [List.size_toArray, List.length_append, List.length_append, List.length_take, List.length_drop]
    omega
  · rw [List.append_assoc, List.take_append_of_le_length (by rw [List.length_take]; omega), List.take_take, Nat.min_self]
    exact ht
theorem drop_set' {l : List Sg} {i j : Nat} {s : Sg} (h : i < j) : (l.set i s).drop j = l.drop j := by
  rw [List.drop_set]
  rw [if_pos h]
set_option maxRecDepth 100000 in
set_option maxHeartbeats 4000000 in
theorem del_any {B n : Nat} {v : Value} {l : List Sg} (w : World) (hn : n = l.length) (h : w.ownsRow B 53 2 v n (l.flatMap sgc)) (hl : n ≤ 1000000) (hBw : B ≤ w.heap.size) :
    Calls Try.prog 34 #[v, empF] w fun e w' => ∃ v', e = .returned v' ∧ LnOwn B w' v' (l.filter neS) ∧ Keeps (fun k => B ≤ k) w w' := by
  have HI := Lib.hid (idx_any w hn h hl)
  have H := Lib.hid h
  have HN := Lib.hid hn
  obtain ⟨ao, cap, rfl⟩ := own_val h
  have hcp := own_cap h
  obtain ⟨hc1, hc2⟩ := hcp
  have HC2 := Lib.hid hc2
  clear h hn hc2
  go_enter Try.func34, Try.ntmps34
  go_wp2_with fail
  refine HI.out.mono ?_
  rintro e w1 ⟨z, rfl, hz, hb1⟩
  have HB1 := Lib.hid hb1
  clear hb1 HI
  rcases hz with ⟨rfl, hno⟩ | ⟨i, hi, rfl, hy, hno⟩
  · have HF := Lib.hid (show l.filter neS = l from List.filter_eq_self.2 (fun s hs => by simp [hno s hs]))
    clear hno
    go_wp2
    go_ret
    refine ⟨_, rfl, ?_, Keeps.ofNew HB1.out _⟩
    rw [HF.out]
    unfold LnOwn
    rw [← HN.out]
    exact (Keeps.ofNew HB1.out (fun _ => False)).row H.out (fun _ _ h => h)
  · have hiL : i < l.length := by rw [← HN.out]; exact hi
    obtain ⟨g, rfl⟩ : ∃ g, ao = some ⟨g, 0, none⟩ := by
      obtain ⟨g, cap', e⟩ := own_shape2 H.out (by omega)
      simp only [Value.slice.injEq] at e
      exact ⟨g, e.1⟩
    have HBg := Lib.hid (H.out.lt g rfl).1
    have hi0 : ((i : Int) == -1) = false := by simp
    have HF0 := Lib.hid (show l.take i = (l.take (i + 1)).filter neS from by
      rw [ne_succ hiL, hy hiL, List.filter_eq_self.2 (fun s hs => by simp [hno s hs])]
      simp)
    have HR1 := Lib.hid ((Keeps.ofNew HB1.out (fun _ => False)).row H.out (fun _ _ h => h))
    clear hy hno hiL
    go_wp2
    go_loopw [5, 6] (fun i5 i6 wr => ∃ (i j : Nat) (L : List Sg), i < j ∧ j ≤ n ∧ i5 = .int .i64 i ∧ i6 = .int .i64 j ∧ Hid (L.length = n) ∧ Hid (L.take i = (l.take j).filter neS) ∧ Hid (L.drop j = l.drop j) ∧ Hid (wr.ownsRow B 53 2 (.slice (some ⟨g, 0, none⟩) n cap) n (L.flatMap sgc)) ∧ Hid (Keeps (fun k => B ≤ k) w wr)) (fun _ j _ => n - (intOf j).toNat)
    case atStart => exact ⟨i, i + 1, l, by omega, by omega, rfl, by go_num, Lib.hid HN.out.symm, HF0, Lib.hid rfl, HR1, Lib.hid (Keeps.ofNew HB1.out _)⟩
    case round =>
      clear HF0 HR1 hi0 hi
      obtain ⟨i, j, L, hij, hjn, rfl, rfl, HL, HT, HD, HR, HK⟩ := hrel
      by_cases hlt : j < n
      · have hlt' : (j : Int) < n := by omega
        have hjL : j < l.length := by rw [← HN.out]; exact hlt
        have hjL2 : j < L.length := by rw [HL.out]; exact hlt
        have hLj : L[j] = l[j] := by
          have h1 := congrArg (fun x : List Sg => x[0]?) HD.out
          simp only [List.getElem?_drop, Nat.add_zero] at h1
          rw [List.getElem?_eq_getElem hjL, List.getElem?_eq_getElem hjL2] at h1
          exact Option.some.inj h1
        obtain ⟨c0, -⟩ := own_cellC sgc_len HR.out j hjL2 0 (by omega)
        obtain ⟨c1, -⟩ := own_cellC sgc_len HR.out j hjL2 1 (by omega)
        have hsc := ne_succ hjL
        rw [hLj] at c0 c1
        obtain ⟨⟨fr, tz⟩, hs⟩ : ∃ s, s = l[j] := ⟨_, rfl⟩
        rw [← hs] at c0 c1 hsc
        replace c0 : wr.cell? ⟨g, j * 2, none⟩ = some (.int .i64 fr) := c0
        replace c1 : wr.cell? ⟨g, j * 2 + 1, none⟩ = some (.int .i64 tz) := c1
        have HSc := Lib.hid hsc
        have HDj := Lib.hid (show L.drop (j + 1) = l.drop (j + 1) from by
          have h1 := congrArg (fun x : List Sg => x.drop 1) HD.out
          simpa using h1)
        have HEl := Lib.hid (hLj.trans hs.symm)
        clear hsc hs hLj
        go_upto_region 8 with (fail)
        obtain ⟨hb1, hg1⟩ := one_new wr (.cells #[.int .i64 fr, .int .i64 tz] 53 (0, 0))
        have hBw2 := HK.out.size
        refine gen_world (S := fun u => Keeps (fun k => B ≤ k) w u ∧ u.ownsRow B 53 2 (.slice (some ⟨g, 0, none⟩) n cap) n (L.flatMap sgc) ∧ u.heap[wr.heap.size]? = some (.cells #[.int .i64 fr, .int .i64 tz] 53 (0, 0)) ∧ g ≠ wr.heap.size) ⟨HK.out.trans (Keeps.ofNew hb1 _), (Keeps.ofNew hb1 (fun _ => False)).row HR.out (fun _ _ h => h), hg1, by have := (HR.out.lt g rfl).2; omega⟩ (fun u hu => ?_)
        obtain ⟨hku, hru, hgu, hne⟩ := hu
        have HKu := Lib.hid hku
        have HRu := Lib.hid hru
        have HGu := Lib.hid hgu
        obtain ⟨x0, x1⟩ := two_box hgu
        generalize wr.heap.size = X at HGu x0 x1 hne hBw2 ⊢
        clear hb1 hg1 hku hru hgu HR HK c0 c1 hBw2
        have HE := Lib.hid (emp_any fr tz u)
        cases he : empS ⟨fr, tz⟩
        · rw [he] at HE
          have hsn : (l.take (j + 1)).filter neS = (l.take j).filter neS ++ [⟨fr, tz⟩] := by
            rw [HSc.out, he]
            simp
          have HSn := Lib.hid hsn
          clear he hsn
          go_wp2_with fail
          refine HE.out.mono ?_
          rintro e u2 ⟨rfl, hb⟩
          have hrow := (Keeps.ofNew hb (fun _ => False)).row HRu.out (fun _ _ h => h)
          have hg2 := (hb.block _ (lt_of_block HGu.out)).trans HGu.out
          have HK2 := Lib.hid (HKu.out.trans (Keeps.ofNew hb _))
          clear x0 x1 hb
          obtain ⟨x0, x1⟩ := two_box hg2
          have hiL2 : i < L.length := by rw [HL.out]; omega
          obtain ⟨d0, e0⟩ := own_cellC sgc_len hrow i hiL2 0 (by omega)
          obtain ⟨d1, e1⟩ := own_cellC sgc_len hrow i hiL2 1 (by omega)
          have hset0 := own_setC sgc_len hrow i hiL2 0 (by omega) ⟨fr, L[i].to⟩ (.int .i64 fr) rfl
          have hset1 := own_setC sgc_len hset0 i (by simpa using hiL2) 1 (by omega) ⟨fr, tz⟩ (.int .i64 tz) (by simp [sgc])
          simp only [List.set_set, Nat.add_zero] at hset1
          have HS1 := Lib.hid hset1
          obtain ⟨d0z, hd0⟩ : ∃ u, u2.cell? ⟨g, i * 2, none⟩ = some u := ⟨_, d0⟩
          obtain ⟨d1z, hd1⟩ : ∃ u, u2.cell? ⟨g, i * 2 + 1, none⟩ = some u := ⟨_, d1⟩
          replace e0 : u2.frozen? ⟨g, i * 2, none⟩ = false := e0
          have HKs := Lib.hid (HK2.out.trans (((Keeps.refl (fun k => B ≤ k) u2).setCell (p := ⟨g, i * 2, none⟩) HBg.out (.int .i64 fr)).setCell (p := ⟨g, i * 2 + 1, none⟩) HBg.out (.int .i64 tz)))
          have hiI : (i : Int) < n := by omega
          clear hset0 hset1 d0 d1 hrow hg2
          go_wp2
          go_roundw
          case rel => exact ⟨i + 1, j + 1, _, by omega, by omega, by go_num, by go_num, Lib.hid (by rw [List.length_set]; exact HL.out), Lib.hid (by
            rw [HSn.out, ← HT.out, List.take_succ_eq_append_getElem (by rw [List.length_set]; exact hiL2), List.take_set_of_le (Nat.le_refl _)]
            simp), Lib.hid (by rw [drop_set' (by omega)]; exact HDj.out), HS1, HKs⟩
          case measure => simp [intOf]; omega
        · rw [he] at HE
          have hsn : (l.take (j + 1)).filter neS = (l.take j).filter neS := by
            rw [HSc.out, he]
            simp
          have HSn := Lib.hid hsn
          clear he hsn
          go_wp2_with fail
          refine HE.out.mono ?_
          rintro e u2 ⟨rfl, hb⟩
          have HR2 := Lib.hid ((Keeps.ofNew hb (fun _ => False)).row HRu.out (fun _ _ h => h))
          have HK2 := Lib.hid (HKu.out.trans (Keeps.ofNew hb _))
          clear x0 x1 hb
          go_wp2
          go_roundw
          case rel => exact ⟨i, j + 1, L, by omega, by omega, by rfl, by go_num, HL, Lib.hid (by rw [HSn.out]; exact HT.out), HDj, HR2, HK2⟩
          case measure => simp [intOf]; omega
      · have hlt' : ¬ (j : Int) < n := by omega
        have HFl := Lib.hid (show L.take i = l.filter neS from by rw [HT.out, List.take_of_length_le (by rw [← HN.out]; omega)])
        have hin : i < n := by omega
        have hiI : (i : Int) < n := by omega
        have hiI2 : (i : Int) ≤ n := by omega
        have hnc : (n : Int) ≤ cap := by omega
        have hic : ¬ cap = i := by omega
        obtain ⟨zs, hzs⟩ : ∃ zs, zs = (Builtin.zeroCells zSg.cells (n - i)).toList := ⟨_, rfl⟩
        have hzl := zeros2_len (n - i)
        have hz1 := zeros2_one (n - i)
        rw [← hzs] at hzl hz1
        have hcc : ∀ j, j < zs.length → (wr.cell? ⟨g, i * 2 + j, none⟩).isSome = true ∧ wr.frozen? ⟨g, i * 2 + j, none⟩ = false := fun j hj => by
          obtain ⟨-, -, cur, hg, k1, k2, k3, -⟩ := own_open HR.out
          have hb := block_cell' (w := wr) hg (i * 2 + j)
          rw [hb.1]
          refine ⟨?_, hb.2⟩
          rw [Array.getElem?_eq_getElem (show i * 2 + j < cur.size by omega)]
          rfl
        have HZ := Lib.hid (run_clear_cells (P := Try.prog) wr 51 53 0 zSg Try.underlying51 Try.zeroLine g (i * 2) (n - i) (cap - i) zs hzs.symm hz1 (by omega) (fun j hj => (hcc j hj).1) (fun j hj => (hcc j hj).2))
        have HZl := Lib.hid hzl
        clear hzl hz1 hcc hzs
        go_wp2_with (refine wpList_clear_run _ rfl (.tmp 38) 51 rfl _ (by rfl) (.tuple #[]) _ HZ.out ?_)
        go_ret
        refine ⟨_, rfl, ?_, HK.out.trans ((keeps_setCells zs (i * 2)).mono fun k _ e => by subst e; exact HBg.out)⟩
        have h1 := own_cut (m := i) HR.out (by omega) zs (by have := HZl.out; omega)
        rw [HFl.out] at h1
        unfold LnOwn
        have h2 : (l.filter neS).length = i := by rw [← HFl.out, List.length_take, HL.out]; omega
        rw [h2]
        exact h1
end Go.Proofs.Ytndminmefacmnaa
