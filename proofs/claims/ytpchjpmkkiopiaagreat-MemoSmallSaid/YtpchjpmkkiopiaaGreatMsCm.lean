import Derived.Test.YtpchjpmkkiopiaaGreatMsBm
import Derived.Deep.WholeRow
namespace Go.Proofs.YtpchjpmkkiopiaaGreat
open Go.RowKit Go.Lib

theorem dec_len (d : DeM) : (dec d).length = 9 := rfl
/-- a deed of an entry without slices. -/
def dd (what : Int) (k : Ky) (x : Ent) : DeM := ⟨what, k, x⟩
def Plain (d : DeM) : Prop := kyOk d.k ∧ d.x.tree = [] ∧ d.x.tou = [] ∧ d.x.tv = .slice none 0 0 ∧ d.x.kv = .slice none 0 0
abbrev DdOwn (B : Nat) (w : World) (v : Value) (n : Nat) (l : List DeM) : Prop := w.ownsRow B 33 9 v n (l.flatMap dec)
theorem dd_one {l : List DeM} (h : ∀ d ∈ l, Plain d) : ∀ u ∈ l.flatMap dec, u.oneCell' = true := by
  intro u hu
  obtain ⟨d, hd, h1⟩ := List.mem_flatMap.1 hu
  obtain ⟨-, -, -, h2, h3⟩ := h d hd
  simp only [dec, List.mem_cons, List.not_mem_nil, or_false] at h1
  rcases h1 with rfl | rfl | rfl | rfl | rfl | rfl | rfl | rfl | rfl <;> first | rfl | (rw [h2]; rfl) | (rw [h3]; rfl)
theorem dd_at {B n : Nat} {w : World} {v : Value} {l : List DeM} (h : DdOwn B w v n l) (hn : n = l.length) (hp : ∀ d ∈ l, Plain d) : DsAt w v l := by
  refine ⟨own_rows dec_len hn h, fun d hd => ?_, fun d hd => ?_⟩
  · obtain ⟨h1, h2, h3, h4, h5⟩ := hp d hd
    refine ⟨h1, ?_, ?_⟩
    · rw [h2, h4]; exact nil_twAt _
    · rw [h3, h5]; exact nil_ivAt _
  · obtain ⟨h1, h2, h3, h4, h5⟩ := hp d hd
    rw [h2, h3]; simp
theorem Tryz.infoDeed : (Tryz.prog.info? 33).map (fun i => (i.zero, i.size, i.bytes)) = some (some (.agg #[.int .i64 0, .int .i64 0, .int .i64 0, .int .i64 0, .bool false, .int .i64 0, .int .i64 0, .slice none 0 0, .slice none 0 0]), 9, 104) := by kernel_rfl
theorem w64_bits (op : BinOp) (a b : Int) : W64 (bits op .i64 a b) := wf64 (bits_within op .i64 a b)
theorem w64_wrap (a : Int) : W64 (IntKind.i64.wrap a) := wf64 (wrap_within .i64 a)
/-- where the new row lies, and what is left of the old one. -/
def KeptBy (w w' : World) (v : Value) (n : Nat) (v' : Value) (n' : Nat) : Prop :=
  (∃ g cap, v = .slice (some ⟨g, 0, none⟩) n cap ∧ v' = .slice (some ⟨g, 0, none⟩) n' cap) ∨ (w.grownBy w' none ∧ ∀ k, v'.ownBlock = some k → w.heap.size ≤ k)
theorem run_append_kept {P : Program} (w : World) (base : Nat) (t ty e : TypeId) (i : TypeInfo) (z : Value) (size bytes : Nat) (ht : P.underlying t = some (.slice e)) (hi : P.info? e = some i) (hz : i.zero = some z)
    (hsize : i.size = size) (hby : i.bytes = bytes) (hzs : z.cells.size = size) (hsz : 0 < size)
    (v : Value) (n : Nat) (xs : List Value) (hown : w.ownsRow base e size v n xs)
    (a : Addr) (m c : Nat) (news : List Value) (hl : news.length = m * size) (hnews : ∀ j u, news[j]? = some u → w.cell? (a.add j) = some u) (h1 : ∀ u ∈ news, u.oneCell' = true)
    (hm : 0 < m) (h63 : n + m ≤ maxLen) (hbytes : (n + m) * bytes ≤ 140737488355328) (hbase : base ≤ w.heap.size) :
    ∃ v' w', (Builtin.append_ #[t, t] ty #[v, .slice (some a) m c]).run P w = .ok v' w' ∧ w'.ownsRow base e size v' (n + m) (xs ++ news) ∧ w.grownBy w' v.ownBlock ∧ KeptBy w w' v n v' (n + m) := by
  obtain ⟨v', w', hr, h2, h3, -⟩ := run_append_own (P := P) w base t ty e i z size bytes ht hi hz hsize hby hzs hsz v n xs hown a m c news hl hnews h1 h63 hbytes hbase
  refine ⟨v', w', hr, h2, h3, ?_⟩
  subst hsize
  subst hby
  have hsmall : n + m ≤ 9223372036854775807 := by simp only [maxLen] at h63; omega
  have hnew : ∀ o : Obj, w.grownBy (w.drew.alloc o) none := fun o => ⟨rfl, rfl, rfl, by simp, fun k hk _ => Below.heap_alloc w.drew o k hk⟩
  rcases hown.2 with ⟨rfl, rfl⟩ | ⟨g, cap, cur, rfl, hbg, hg, hnc, hcm, hcs, htake⟩
  · have hr2 := run_append_nil (P := P) w t ty e i z ht hi hz a m c news hl hnews (by omega) (by omega) (by have hb := hbytes; simp only [Nat.zero_add] at hb; omega)
    rw [hr] at hr2
    simp only [Result.ok.injEq] at hr2
    obtain ⟨rfl, rfl⟩ := hr2
    exact .inr ⟨hnew _, fun k hk => by simp [Value.ownBlock] at hk; omega⟩
  · by_cases hroom : n + m ≤ cap
    · have hfit : n * i.size + news.length ≤ cur.size := by rw [hl, hcs, ← Nat.add_mul]; exact Nat.mul_le_mul_right _ hroom
      have hr2 := run_append_room (P := P) w t ty e i ht hi g n cap cur hg a m c news hl hnews h1 hroom hfit
      rw [hr] at hr2
      simp only [Result.ok.injEq] at hr2
      obtain ⟨rfl, -⟩ := hr2
      exact .inl ⟨g, cap, rfl, rfl⟩
    · have holds : ∀ j u, xs[j]? = some u → w.cell? ((⟨g, 0, none⟩ : Addr).add j) = some u := hown.cells (g := g) rfl
      have hr2 := run_append_grow (P := P) w t ty e i z ht hi hz ⟨g, 0, none⟩ n cap xs hown.1 holds a m c news hl hnews (by omega) (by omega) (growslice_fits (by omega) hbytes)
      rw [hr] at hr2
      simp only [Result.ok.injEq] at hr2
      obtain ⟨rfl, rfl⟩ := hr2
      exact .inr ⟨hnew _, fun k hk => by simp [Value.ownBlock] at hk; omega⟩
theorem step_append_kept {P : Program} (w : World) {ops : Array Oper} {o : Oper} {a : Act} {K : Act → World → Prop} {Q : Exit → Act → World → Prop} {E : Prop} (hgd : o.guard = none) (s x : Operand) (t : TypeId)
    (ho : o.op = .call { callee := .builtin .append, args := #[s, x], argTypes := #[t, t] })
    (base : Nat) (e : TypeId) (i : TypeInfo) (z : Value) (size bytes : Nat) (ht : P.underlying t = some (.slice e)) (hi : P.info? e = some i) (hz : i.zero = some z)
    (hsize : i.size = size) (hby : i.bytes = bytes) (hzs : z.cells.size = size) (hsz : 0 < size)
    (v : Value) (n : Nat) (xs : List Value) (hs : a.eval s = v) (hown : w.ownsRow base e size v n xs)
    (ad : Addr) (m c : Nat) (news : List Value) (hx : a.eval x = .slice (some ad) m c) (hl : news.length = m * size) (hnews : ∀ j u, news[j]? = some u → w.cell? (ad.add j) = some u) (h1 : ∀ u ∈ news, u.oneCell' = true)
    (hm : 0 < m) (h63 : n + m ≤ maxLen) (hbytes : (n + m) * bytes ≤ 140737488355328) (hbase : base ≤ w.heap.size)
    (h : ∀ v' w', w'.ownsRow base e size v' (n + m) (xs ++ news) → w.grownBy w' v.ownBlock → KeptBy w w' v n v' (n + m) → K (a.put o.dst v') w') :
    if Region.wanted o (yielded ops a.tmps) = true then Oper.wp P o a w K Q else E := by
  have hw : Region.wanted o (yielded ops a.tmps) = true := by simp [Region.wanted, hgd]
  rw [if_pos hw]
  obtain ⟨v', w', hr, h2, h3, h4⟩ := run_append_kept (P := P) w base t o.type e i z size bytes ht hi hz hsize hby hzs hsz v n xs hown ad m c news hl hnews h1 hm h63 hbytes hbase
  unfold Oper.wp execOp
  simp only [ho, resolve, invoke, builtin, Sem.run_bind, Sem.run_pure, Result.andThen_ok, List.map_toArray, List.map_cons, List.map_nil, hs, hx, hr]
  exact h v' w' h2 h3 h4
/-- the first of an own row. -/
theorem own_first {w : World} {base g n n0 cap C : Nat} {e : TypeId} {xs : List Value} (h : w.ownsRow base e C (.slice (some ⟨g, 0, none⟩) n cap) n xs) (hn : n0 ≤ n) : w.ownsRow base e C (.slice (some ⟨g, 0, none⟩) n0 cap) n0 (xs.take (n0 * C)) := by
  obtain ⟨h0, hb, cur, hg, h1, h2, h3, ht⟩ := own_open h
  refine own_shut ?_ hb hg (by omega) h2 h3 ?_
  · rw [List.length_take, h0]
    exact Nat.min_eq_left (Nat.mul_le_mul_right _ hn)
  · rw [← ht, List.take_take, Nat.min_eq_left (Nat.mul_le_mul_right _ hn)]
/-- two rows in one block have one room. -/
theorem own_room {w : World} {base b2 g n n0 cap cap0 C : Nat} {e : TypeId} {xs ys : List Value} (hC : 0 < C) (h : w.ownsRow base e C (.slice (some ⟨g, 0, none⟩) n cap) n xs) (h2 : w.ownsRow b2 e C (.slice (some ⟨g, 0, none⟩) n0 cap0) n0 ys) : cap0 = cap := by
  obtain ⟨-, -, cur, hg, -, -, h3, -⟩ := own_open h
  obtain ⟨-, -, cur2, hg2, -, -, h4, -⟩ := own_open h2
  rw [hg] at hg2
  simp only [Option.some.injEq, Obj.cells.injEq, and_true, true_and] at hg2
  subst hg2
  rw [h3] at h4
  exact (Nat.eq_of_mul_eq_mul_right hC h4).symm
/-- a row that the appended one was the first part of, is as it was. -/
theorem kept_first {w w' : World} {base C n n' n0 : Nat} {e : TypeId} {v v' v0 : Value} {xs ys zs : List Value} (hC : 0 < C) (hv : w.ownsRow base e C v n xs) (h0 : w.ownsRow base e C v0 n0 ys) (hn : n0 ≤ n) (hnn : n ≤ n')
    (hg : w.grownBy w' v.ownBlock) (hk : KeptBy w w' v n v' n') (h' : w'.ownsRow base e C v' n' zs) (hp : ys = zs.take (n0 * C)) : w'.ownsRow base e C v0 n0 ys := by
  have hold : w.grownBy w' none → w'.ownsRow base e C v0 n0 ys := fun h => h0.kept h (by cases v0.ownBlock <;> simp)
  rcases hk with ⟨g, cap, rfl, rfl⟩ | ⟨h1, -⟩
  · by_cases he : v0.ownBlock = some g
    · rcases h0.2 with ⟨rfl, -⟩ | ⟨g0, cap0, cur, rfl, -⟩
      · simp [Value.ownBlock] at he
      · simp only [Value.ownBlock, Option.some.injEq] at he
        subst he
        have := own_room hC hv h0
        subst this
        rw [hp]
        exact own_first h' (Nat.le_trans hn hnn)
    · exact h0.kept hg (.inr (by simpa [Value.ownBlock] using he))
  · exact hold h1
theorem tmod_nat (n k : Nat) (hk : 0 < k) : ∃ m : Nat, (n : Int).tmod k = (m : Int) ∧ (n : Int) % k = (m : Int) ∧ m < k :=
  ⟨n % k, by rw [Int.tmod_eq_emod_of_nonneg (by omega)]; omega, by omega, Nat.mod_lt _ hk⟩
theorem below_setRow {B Y : Nat} {w w' : World} {cs : Array Value} (h : Below B w w') (hY : B ≤ Y) (hB : B ≤ w.heap.size) : Below B w (w'.setRow Y cs) := by
  obtain ⟨h1, h2, h3, h4, h5⟩ := h
  exact ⟨h1, h2, h3, by simpa using h4, fun k hk => (setRow_other w' Y k cs (by omega)).trans (h5 k hk)⟩
/-- a whole struct into a block, as one step of a region that draws. -/
theorem step_store_block {P : Program} (w : World) {ops : Array Oper} {o : Oper} {a : Act} {K : Act → World → Prop} {Q : Exit → Act → World → Prop} {E : Prop} (hgd : o.guard = none) (t tt : TypeId) (p x : Operand) (ho : o.op = .store t p x) (Y : Nat) (c c' : Array Value)
    (hp : a.eval p = .pointer (some ⟨Y, 0, none⟩)) (hx : a.eval x = .agg c') (hY : w.heap[Y]? = some (.cells c tt (0, 0))) (hi : (P.info? t).map (·.size) = some c'.size) (hs : c.size = c'.size) (h1 : c'.all (·.oneCell') = true)
    (h : K (a.put o.dst undef) (w.setRow Y c')) : if Region.wanted o (yielded ops a.tmps) = true then Oper.wp P o a w K Q else E := by
  have hw : Region.wanted o (yielded ops a.tmps) = true := by simp [Region.wanted, hgd]
  rw [if_pos hw]
  have hr : (Instr.storeAt t (.pointer (some ⟨Y, 0, none⟩)) (.agg c')).run P w = .ok () (w.setRow Y c') := by
    simp only [Instr.storeAt, Instr.sureAddr, Sem.run_bind, Sem.run_pure, Result.andThen]
    exact run_storeVar_row _ _ tt t c c' hY hi hs h1
  unfold Oper.wp execOp
  simp only [ho, hp, hx, Sem.run_bind, hr, Result.andThen_ok, Sem.run_pure, Oper.upon]
  exact h
/-- the numbers at the ends. -/
theorem ends_at {w : World} {g k : Nat} (h : w.heap[g]? = some (.cells #[.int .i64 (-9223372036854775808), .int .i64 (-1), .int .i64 0, .int .i64 9223372036854775807] 3 (0, 0))) (hk : k < 4) : ∃ a, W64 a ∧ w.cell? ⟨g, k, none⟩ = some (.int .i64 a) := by
  obtain ⟨h0, h1, h2, h3⟩ := four_boxM h
  rcases (show k = 0 ∨ k = 1 ∨ k = 2 ∨ k = 3 by omega) with rfl | rfl | rfl | rfl
  · exact ⟨_, wf64 (by omega), h0⟩
  · exact ⟨_, wf64 (by omega), h1⟩
  · exact ⟨_, wf64 (by omega), h2⟩
  · exact ⟨_, wf64 (by omega), h3⟩
theorem ends_deeds {w : World} {gT gE gD : Nat} {a0 a1 a2 : Int} (hk : kyOk ⟨a0, a1, a2⟩) (hT : w.heap[gT]? = some (.cells #[.int .i64 3, .int .i64 0, .int .i64 0, .int .i64 0, .int .i64 0] 38 (0, 0)))
    (hE : w.heap[gE]? = some (.cells #[.int .i64 (-9223372036854775808), .int .i64 (-1), .int .i64 0, .int .i64 9223372036854775807] 3 (0, 0)))
    (hD : w.heap[gD]? = some (.cells #[.int .i64 0, .int .i64 a0, .int .i64 a1, .int .i64 a2, .bool false, .int .i64 0, .int .i64 0, .slice none 0 0, .slice none 0 0, .int .i64 2, .int .i64 a0, .int .i64 a1, .int .i64 a2, .bool false, .int .i64 0, .int .i64 0, .slice none 0 0, .slice none 0 0, .int .i64 0, .int .i64 a0, .int .i64 a1, .int .i64 a2, .bool false, .int .i64 0, .int .i64 0, .slice (some ⟨gT, 0, none⟩) 1 1, .slice (some ⟨gE, 0, none⟩) 4 4] 33 (0, 0))) :
    DsAt w (.slice (some ⟨gD, 0, none⟩) 3 3) [dd 0 ⟨a0, a1, a2⟩ zeroX, dd 2 ⟨a0, a1, a2⟩ zeroX, dd 0 ⟨a0, a1, a2⟩ ⟨false, 0, 0, [⟨3, 0, 0, 0, 0⟩], [-9223372036854775808, -1, 0, 9223372036854775807], .slice (some ⟨gT, 0, none⟩) 1 1, .slice (some ⟨gE, 0, none⟩) 4 4⟩] := by
  have hz : EntAt w zeroX := ⟨nil_twAt w, nil_ivAt w⟩
  refine ⟨own_rows (base := 0) (e := 33) dec_len rfl (own_shut rfl (Nat.zero_le _) hD (Nat.le_refl _) (by unfold maxLen; omega) rfl rfl), fun d hd => ?_, fun d hd => ?_⟩
  · simp at hd
    rcases hd with rfl | rfl | rfl
    · exact ⟨hk, hz⟩
    · exact ⟨hk, hz⟩
    · refine ⟨hk, ?_, ?_⟩
      · exact own_rows (base := 0) (e := 38) twc_len (l := [⟨3, 0, 0, 0, 0⟩]) rfl (own_shut rfl (Nat.zero_le _) hT (Nat.le_refl _) (by unfold maxLen; omega) rfl rfl)
      · exact own_cells (iv_oneCell _) (own_shut (base := 0) (xs := iv [-9223372036854775808, -1, 0, 9223372036854775807]) rfl (Nat.zero_le _) hE (Nat.le_refl _) (by unfold maxLen; omega) rfl rfl)
  · simp at hd
    rcases hd with rfl | rfl | rfl <;> simp [dd, zeroX]
theorem w64_of_bits {op : BinOp} {a b z : Int} (h : z = bits op .i64 a b) : W64 z := by subst h; exact w64_bits op a b
theorem w64_of_wrap {a z : Int} (h : z = IntKind.i64.wrap a) : W64 z := by subst h; exact w64_wrap a
set_option maxRecDepth 100000 in
set_option maxHeartbeats 32000000 in
theorem memoSmall_main (w : World) : Calls Tryz.prog 3 #[] w fun e w' => e = .returned (.bool true) ∧ Below w.heap.size w w' := by
  have HAw := Lib.hid awake_any
  have HNo := Lib.hid none_any
  have HMd := Lib.hid memoDoes_main
  have HSm := Lib.hid some_any
  obtain ⟨i0, hi0, hz0, hz1, hz2⟩ := info_parts Tryz.infoDeed
  have hszD : (Tryz.prog.info? 33).map (·.size) = some 9 := by kernel_rfl
  have hszK : (Tryz.prog.info? 24).map (·.size) = some 3 := by kernel_rfl
  go_enter Tryz.func3, Tryz.ntmps3
  go_upto_region 2 with (fail)
  go_loopw [1] (fun i wr => ∃ n : Nat, n ≤ 1024 ∧ i = .int .i64 n ∧ Hid (Below w.heap.size w wr)) (fun i _ => 1024 - (intOf i).toNat)
  case atStart => exact ⟨0, Nat.zero_le _, rfl, Lib.hid (Below.refl _ _)⟩
  case round =>
    obtain ⟨n, hn, rfl, HB⟩ := hrel
    by_cases hlt : n < 1024
    · have hlt2 : (n : Int) < 1024 := by omega
      go_upto_region 6 with (fail)
      refine gen_world (S := fun v => Below wr.heap.size wr v) (Below.refl _ _) (fun wd hwd => ?_)
      replace HB := Lib.hid (HB.out.trans (hwd.mono HB.out.size))
      clear hwd
      go_loopw [2, 3] (fun t i wr => ∃ (k tn : Nat) (ta : Option Addr) (tc : Nat) (l : List DeM), k ≤ 5 ∧ i = .int .i64 k ∧ t = .slice ta tn tc ∧ tn = k ∧ Hid (l.length = tn ∧ (∀ d ∈ l, Plain d) ∧ DdOwn wd.heap.size wr (.slice ta tn tc) tn l ∧ Below wd.heap.size wd wr)) (fun _ i _ => 5 - (intOf i).toNat)
      case atStart => exact ⟨0, 0, none, 0, [], Nat.zero_le _, rfl, rfl, rfl, Lib.hid ⟨rfl, by simp, World.ownsRow_nil _ _ _ _, Below.refl _ _⟩⟩
      case round =>
        obtain ⟨k, tn, ta, tc, l, hk, rfl, rfl, rfl, HL⟩ := hrel
        by_cases hk5 : tn < 5
        · have hk6 : (tn : Int) < 5 := by omega
          have h1 : ¬ (2 * (tn : Int)) < 0 := by omega
          have h2 : ¬ (2 * (tn : Int) + 1) < 0 := by omega
          have h3 : IntKind.i64.wrap (2 * (tn : Int)) = 2 * (tn : Int) := IntWalk.i64_in _ (by omega)
          have h4 : IntKind.i64.wrap (2 * (tn : Int) + 1) = 2 * (tn : Int) + 1 := IntWalk.i64_in _ (by omega)
          have h5 : (0 : Int) ≤ 2 * (tn : Int) := by omega
          have h6 : (0 : Int) ≤ 2 * (tn : Int) + 1 := by omega
          go_upto_region 8 with (fail)
          obtain ⟨B, hBe⟩ : ∃ B, B = wr.heap.size := ⟨_, rfl⟩
          have HSz := Lib.hid (show ∀ z, Below B wr z → B ≤ z.heap.size from fun z hz => by rw [hBe]; exact hz.size)
          have HEz := Lib.hid (show ∀ z, Below B wr z → Below wr.heap.size wr z from fun z hz => by rw [← hBe]; exact hz)
          have hd : Below B wr wr.drew := by rw [hBe]; exact (Below.refl wr.heap.size wr).drew
          have hBl : B ≤ wr.heap.size := by rw [hBe]; exact Nat.le_refl _
          clear hBe
          refine wp_region_held_drew (S := fun z => Below B wr z) (by kernel_rfl) hd (fun hS => ?_)
          clear hd
          refine wpAnyH_take (i := 0) (oi := ⟨_, _, _, _, _, _⟩) (v := ?v1) rfl (by kernel_rfl) (by kernel_rfl) (by kernel_rfl) (fun _ _ _ h => h) ?y1 hS ?_
          case y1 => first | (refine Or.inr ⟨by rfl, ?_⟩; with_reducible rfl) | (refine Or.inl ⟨by rfl, ?_⟩; intro wS hSw; go_simp; try with_reducible rfl)
          simp only [Act.put, List.setIfInBounds_toArray, List.set_cons_zero, List.set_cons_succ]
          refine wpAnyH_take (i := 1) (oi := ⟨_, _, _, _, _, _⟩) (v := ?v2) rfl (by kernel_rfl) (by kernel_rfl) (by kernel_rfl) (fun _ _ _ h => h) ?y2 hS ?_
          case y2 => first | (refine Or.inr ⟨by rfl, ?_⟩; with_reducible rfl) | (refine Or.inl ⟨by rfl, ?_⟩; intro wS hSw; go_simp; try with_reducible rfl)
          simp only [Act.put, List.setIfInBounds_toArray, List.set_cons_zero, List.set_cons_succ]
          refine wpAnyH_take (i := 2) (oi := ⟨_, _, _, _, _, _⟩) (v := ?v3) rfl (by kernel_rfl) (by kernel_rfl) (by kernel_rfl) (fun _ _ _ h => h) ?y3 hS ?_
          case y3 => first | (refine Or.inr ⟨by rfl, ?_⟩; with_reducible rfl) | (refine Or.inl ⟨by rfl, ?_⟩; intro wS hSw; go_simp; try with_reducible rfl)
          simp only [Act.put, List.setIfInBounds_toArray, List.set_cons_zero, List.set_cons_succ]
          refine wpAnyH_take (i := 3) (oi := ⟨_, _, _, _, _, _⟩) (v := ?v4) rfl (by kernel_rfl) (by kernel_rfl) (by kernel_rfl) (fun _ _ _ h => h) ?y4 hS ?_
          case y4 => first | (refine Or.inr ⟨by rfl, ?_⟩; with_reducible rfl) | (refine Or.inl ⟨by rfl, ?_⟩; intro wS hSw; go_simp; try with_reducible rfl)
          simp only [Act.put, List.setIfInBounds_toArray, List.set_cons_zero, List.set_cons_succ]
          refine wpAnyH_take (i := 4) (oi := ⟨_, _, _, _, _, _⟩) (v := ?v5) rfl (by kernel_rfl) (by kernel_rfl) (by kernel_rfl) (fun _ _ _ h => h) ?y5 hS ?_
          case y5 => first | (refine Or.inr ⟨by rfl, ?_⟩; with_reducible rfl) | (refine Or.inl ⟨by rfl, ?_⟩; intro wS hSw; go_simp; try with_reducible rfl)
          simp only [Act.put, List.setIfInBounds_toArray, List.set_cons_zero, List.set_cons_succ]
          refine wpAnyH_take (i := 5) (oi := ⟨_, _, _, _, _, _⟩) (v := ?v6) rfl (by kernel_rfl) (by kernel_rfl) (by kernel_rfl) (fun _ _ _ h => h) ?y6 hS ?_
          case y6 => first | (refine Or.inr ⟨by rfl, ?_⟩; with_reducible rfl) | (refine Or.inl ⟨by rfl, ?_⟩; intro wS hSw; go_simp; try with_reducible rfl)
          simp only [Act.put, List.setIfInBounds_toArray, List.set_cons_zero, List.set_cons_succ]
          refine wpAnyH_take (i := 6) (oi := ⟨_, _, _, _, _, _⟩) (v := ?v7) rfl (by kernel_rfl) (by kernel_rfl) (by kernel_rfl) (fun _ _ _ h => h) ?y7 hS ?_
          case y7 => first | (refine Or.inr ⟨by rfl, ?_⟩; with_reducible rfl) | (refine Or.inl ⟨by rfl, ?_⟩; intro wS hSw; go_simp; try with_reducible rfl)
          simp only [Act.put, List.setIfInBounds_toArray, List.set_cons_zero, List.set_cons_succ]
          refine wpAnyH_take (i := 7) (oi := ⟨_, _, _, _, _, _⟩) (v := ?v8) rfl (by kernel_rfl) (by kernel_rfl) (by kernel_rfl) (fun _ _ _ h => h) ?y8 hS ?_
          case y8 => first | (refine Or.inr ⟨by rfl, ?_⟩; with_reducible rfl) | (refine Or.inl ⟨by rfl, ?_⟩; intro wS hSw; go_simp; try with_reducible rfl)
          simp only [Act.put, List.setIfInBounds_toArray, List.set_cons_zero, List.set_cons_succ]
          refine wpAnyH_take (i := 8) (oi := ⟨_, _, _, _, _, _⟩) (v := ?v9) rfl (by kernel_rfl) (by kernel_rfl) (by kernel_rfl) (fun _ _ _ h => h) ?y9 hS ?_
          case y9 => first | (refine Or.inr ⟨by rfl, ?_⟩; with_reducible rfl) | (refine Or.inl ⟨by rfl, ?_⟩; intro wS hSw; go_simp; try with_reducible rfl)
          simp only [Act.put, List.setIfInBounds_toArray, List.set_cons_zero, List.set_cons_succ]
          refine wpAnyH_take (i := 9) (oi := ⟨_, _, _, _, _, _⟩) (v := ?v10) rfl (by kernel_rfl) (by kernel_rfl) (by kernel_rfl) (fun _ _ _ h => h) ?y10 hS ?_
          case y10 => first | (refine Or.inr ⟨by rfl, ?_⟩; with_reducible rfl) | (refine Or.inl ⟨by rfl, ?_⟩; intro wS hSw; go_simp; try with_reducible rfl)
          simp only [Act.put, List.setIfInBounds_toArray, List.set_cons_zero, List.set_cons_succ]
          refine wpAnyH_take (i := 10) (oi := ⟨_, _, _, _, _, _⟩) (v := ?v11) rfl (by kernel_rfl) (by kernel_rfl) (by kernel_rfl) (fun _ _ _ h => h) ?y11 hS ?_
          case y11 => first | (refine Or.inr ⟨by rfl, ?_⟩; with_reducible rfl) | (refine Or.inl ⟨by rfl, ?_⟩; intro wS hSw; go_simp; try with_reducible rfl)
          simp only [Act.put, List.setIfInBounds_toArray, List.set_cons_zero, List.set_cons_succ]
          refine wpAnyH_take (i := 11) (oi := ⟨_, _, _, _, _, _⟩) (v := ?v12) rfl (by kernel_rfl) (by kernel_rfl) (by kernel_rfl) (fun _ _ _ h => h) ?y12 hS ?_
          case y12 => first | (refine Or.inr ⟨by rfl, ?_⟩; with_reducible rfl) | (refine Or.inl ⟨by rfl, ?_⟩; intro wS hSw; go_simp; try with_reducible rfl)
          simp only [Act.put, List.setIfInBounds_toArray, List.set_cons_zero, List.set_cons_succ]
          refine wpAnyH_take (i := 12) (oi := ⟨_, _, _, _, _, _⟩) (v := ?v13) rfl (by kernel_rfl) (by kernel_rfl) (by kernel_rfl) (fun _ _ _ h => h) ?y13 hS ?_
          case y13 => first | (refine Or.inr ⟨by rfl, ?_⟩; with_reducible rfl) | (refine Or.inl ⟨by rfl, ?_⟩; intro wS hSw; go_simp; try with_reducible rfl)
          simp only [Act.put, List.setIfInBounds_toArray, List.set_cons_zero, List.set_cons_succ]
          refine wpAnyH_take (i := 13) (oi := ⟨_, _, _, _, _, _⟩) (v := ?v14) rfl (by kernel_rfl) (by kernel_rfl) (by kernel_rfl) (fun _ _ _ h => h) ?y14 hS ?_
          case y14 => first | (refine Or.inr ⟨by rfl, ?_⟩; with_reducible rfl) | (refine Or.inl ⟨by rfl, ?_⟩; intro wS hSw; go_simp; try with_reducible rfl)
          simp only [Act.put, List.setIfInBounds_toArray, List.set_cons_zero, List.set_cons_succ]
          refine wpAnyH_take (i := 14) (oi := ⟨_, _, _, _, _, _⟩) (v := ?v15) rfl (by kernel_rfl) (by kernel_rfl) (by kernel_rfl) (fun _ _ _ h => h) ?y15 hS ?_
          case y15 => first | (refine Or.inr ⟨by rfl, ?_⟩; with_reducible rfl) | (refine Or.inl ⟨by rfl, ?_⟩; intro wS hSw; go_simp; try with_reducible rfl)
          simp only [Act.put, List.setIfInBounds_toArray, List.set_cons_zero, List.set_cons_succ]
          refine wpAnyH_take (i := 15) (oi := ⟨_, _, _, _, _, _⟩) (v := ?v16) rfl (by kernel_rfl) (by kernel_rfl) (by kernel_rfl) (fun _ _ _ h => h) ?y16 hS ?_
          case y16 => first | (refine Or.inr ⟨by rfl, ?_⟩; with_reducible rfl) | (refine Or.inl ⟨by rfl, ?_⟩; intro wS hSw; go_simp; try with_reducible rfl)
          simp only [Act.put, List.setIfInBounds_toArray, List.set_cons_zero, List.set_cons_succ]
          refine wpAnyH_take (i := 16) (oi := ⟨_, _, _, _, _, _⟩) (v := ?v17) rfl (by kernel_rfl) (by kernel_rfl) (by kernel_rfl) (fun _ _ _ h => h) ?y17 hS ?_
          case y17 => first | (refine Or.inr ⟨by rfl, ?_⟩; with_reducible rfl) | (refine Or.inl ⟨by rfl, ?_⟩; intro wS hSw; go_simp; try with_reducible rfl)
          simp only [Act.put, List.setIfInBounds_toArray, List.set_cons_zero, List.set_cons_succ]
          refine wpAnyH_take (i := 17) (oi := ⟨_, _, _, _, _, _⟩) (v := ?v18) rfl (by kernel_rfl) (by kernel_rfl) (by kernel_rfl) (fun _ _ _ h => h) ?y18 hS ?_
          case y18 => first | (refine Or.inr ⟨by rfl, ?_⟩; with_reducible rfl) | (refine Or.inl ⟨by rfl, ?_⟩; intro wS hSw; go_simp; try with_reducible rfl)
          simp only [Act.put, List.setIfInBounds_toArray, List.set_cons_zero, List.set_cons_succ]
          refine wpAnyH_ready (rs := [18, 20]) (by kernel_rfl) (by simp) ?_
          refine AllReadyH.cons (o := ⟨_, _, _, _, _, _⟩) rfl (fun K hK => ?_) (AllReadyH.cons (o := ⟨_, _, _, _, _, _⟩) rfl (fun K hK => ?_) AllReadyH.nil)
          · go_simp
            refine (HSm.out tn _).mono ?_
            rintro e w2 ⟨rfl, hb⟩
            go_wp2_with fail
            have hS1 := hS.trans (hb.mono (HSz.out _ hS))
            refine hK.out _ _ hS1 (fun hSd => ?_)
            clear hSd hK K hS hb
            try simp only [Act.put, List.setIfInBounds_toArray, List.set_cons_zero, List.set_cons_succ]
            have hS := hS1
            clear hS1
            refine wpAnyH_take (i := 19) (oi := ⟨_, _, _, _, _, _⟩) (v := ?v19) rfl (by kernel_rfl) (by kernel_rfl) (by kernel_rfl) (fun _ _ _ h => h) ?y19 hS ?_
            case y19 => first | (refine Or.inr ⟨by rfl, ?_⟩; with_reducible rfl) | (refine Or.inl ⟨by rfl, ?_⟩; intro wS hSw; go_simp; try with_reducible rfl)
            simp only [Act.put, List.setIfInBounds_toArray, List.set_cons_zero, List.set_cons_succ]
            refine wpAnyH_ready (rs := [20]) (by kernel_rfl) (by simp) ?_
            refine AllReadyH.cons (o := ⟨_, _, _, _, _, _⟩) rfl (fun K hK => ?_) AllReadyH.nil
            go_simp
            refine hK.out _ _ (hS.alloc (HSz.out _ hS) _) (fun hSd => ?_)
            clear hSd hK K
            try simp only [Act.put, List.setIfInBounds_toArray, List.set_cons_zero, List.set_cons_succ]
            obtain ⟨Y, hY⟩ : ∃ Y, Y = w2.heap.size := ⟨_, rfl⟩
            refine gen_anyH (S2 := fun z => Below B wr z ∧ z.heap[Y]? = some (.cells #[.int .i64 0, .int .i64 0, .int .i64 0, .int .i64 0, .bool false, .int .i64 0, .int .i64 0, .slice none 0 0, .slice none 0 0] 33 (0, 0)) ∧ B ≤ Y) ⟨hS.alloc (HSz.out _ hS) _, by rw [hY]; exact heap_alloc_new _ _, by rw [hY]; have hz := HSz.out _ hS; exact hz⟩ (fun wv hu => ?_)
            clear hS
            rw [← hY]
            clear hY
            obtain ⟨hS, hYb, hYl⟩ := hu
            refine wpAnyH_ready (rs := [21]) (by kernel_rfl) (by simp) ?_
            refine AllReadyH.cons (o := ⟨_, _, _, _, _, _⟩) rfl (fun K hK => ?_) AllReadyH.nil
            refine step_store_block wv (by rfl) 33 33 (.tmp 4) (.tmp 35) (by rfl) Y _ ?cc1 (by rfl) ?hx1 hYb ?hi1 ?hs1 ?h11 ?_
            case hx1 => rfl
            case hi1 => exact hszD
            case hs1 => rfl
            case h11 => simp [Value.oneCell', someX]
            refine hK.out _ _ (below_setRow hS hYl hBl) (fun hS3 => ?_)
            clear hK K
            try simp only [Act.put, List.setIfInBounds_toArray, List.set_cons_zero, List.set_cons_succ]
            refine wpAnyH_done (by kernel_rfl) ?_ _
            obtain ⟨za, hza⟩ : ∃ z, z = bits BinOp.and IntKind.i64 ((n : Int) / 2 ^ (2 * (tn : Int)).toNat) 1 := ⟨_, rfl⟩
            obtain ⟨zc, hzc⟩ : ∃ z, z = bits BinOp.and IntKind.i64 ((n : Int) / 2 ^ (2 * (tn : Int) + 1).toNat) 1 := ⟨_, rfl⟩
            obtain ⟨zb, hzb⟩ : ∃ z, z = IntKind.i64.wrap ((tn : Int).tmod 2 * bits BinOp.and IntKind.i64 (n : Int) 1) := ⟨_, rfl⟩
            rw [← hza, ← hzb, ← hzc] at hS3 ⊢
            have wa : W64 za := w64_of_bits hza
            have wb : W64 zb := w64_of_wrap hzb
            have wc : W64 zc := w64_of_bits hzc
            have hkk : kyOk ⟨za, zb, zc⟩ := And.intro wa (And.intro wb wc)
            clear wa wb wc
            clear hza hzb hzc
            have hx9 := setRow_heap wv Y _ #[.int .i64 0, .int .i64 za, .int .i64 zb, .int .i64 zc, .bool true, .int .i64 tn, .int .i64 0, .slice none 0 0, .slice none 0 0] _ _ hYb
            go_upto_region 9 with (fail)
            refine gen_world (S := fun v => Below wr.heap.size wr v ∧ ∃ dk : Ky, kyOk dk ∧ v.heap[Y]? = some (.cells #[.int .i64 0, .int .i64 dk.rule, .int .i64 dk.level, .int .i64 dk.place, .bool true, .int .i64 tn, .int .i64 0, .slice none 0 0, .slice none 0 0] 33 (0, 0))) ⟨HEz.out _ hS3, ⟨za, zb, zc⟩, hkk, hx9⟩ (fun u hu => ?_)
            clear hkk hx9
            clear hS hS3 hYb hYl
            obtain ⟨hb, dk, hdk, hx⟩ := hu
            have HB4 := Lib.hid (HL.out.2.2.2.trans (hb.mono HL.out.2.2.2.size))
            have HR4 := Lib.hid (row_later HL.out.2.2.1 hb)
            have HDk := Lib.hid hdk
            obtain ⟨z0, z1, z2, z3, z4, z5, z6, z7, z8⟩ := nine_box hx
            clear hb hdk hx h1 h2 h3 h4 h5 h6
            have HPl := Lib.hid (show ∀ d ∈ [dd 0 dk (someX tn)], Plain d from fun d hd => by
              simp at hd; subst hd; exact ⟨HDk.out, rfl, rfl, rfl, rfl⟩)
            go_wp2_with (at_builtin; refine wpList_append_tu (by rfl) (.tmp 36) (.tmp 38) 22 22 (by rfl) wd.heap.size 33 33 i0 _ 9 104 Tryz.underlying22 Tryz.underlying22 hi0 hz0 hz1 hz2 rfl (by decide) ta tn tc (l.flatMap dec) (by rfl) (row_later HR4.out ((Below.refl _ u).alloc (Nat.le_refl _) _)) (some ⟨u.heap.size, 0, none⟩) 1 1 ([dd 0 dk (someX tn)].flatMap dec) (by rfl) (fun h => by cases h) rfl (fun ad h => by cases h; exact World.news_of_block (cs := #[.int .i64 0, .int .i64 dk.rule, .int .i64 dk.level, .int .i64 dk.place, .bool true, .int .i64 tn, .int .i64 0, .slice none 0 0, .slice none 0 0]) (t := 33) (fr := (0, 0)) (heap_alloc_new u _)) (dd_one HPl.out) (by unfold maxLen; omega) (by omega) (Nat.le_trans HB4.out.size (by simp)) ?_; intro v2 w5 hown2 hgrow2; obtain ⟨a2, c2, rfl⟩ := own_val hown2; have HO := Lib.hid (show DdOwn wd.heap.size w5 (.slice a2 (tn + 1) c2) (tn + 1) (l ++ [dd 0 dk (someX tn)]) from by unfold DdOwn; rw [List.flatMap_append]; exact hown2); have HB5 := Lib.hid ((HB4.out.alloc HB4.out.size (.cells #[.int .i64 0, .int .i64 dk.rule, .int .i64 dk.level, .int .i64 dk.place, .bool true, .int .i64 tn, .int .i64 0, .slice none 0 0, .slice none 0 0] 33)).grown hgrow2 (Nat.le_trans HB4.out.size (by simp)) (fun k hk => (HR4.out.lt k hk).1)); clear hown2 hgrow2)
            go_roundw
            case rel => exact ⟨tn + 1, tn + 1, a2, c2, l ++ [dd 0 dk (someX tn)], by omega, by go_num, rfl, rfl, Lib.hid ⟨by rw [List.length_append, HL.out.1]; rfl, fun d hd => (List.mem_append.1 hd).elim (HL.out.2.1 d) (HPl.out d), HO.out, HB5.out⟩⟩
            case measure => simp [intOf]; omega
          · go_simp
            refine hK.out _ _ (hS.alloc (HSz.out _ hS) _) (fun hSd => ?_)
            clear hSd hK K
            try simp only [Act.put, List.setIfInBounds_toArray, List.set_cons_zero, List.set_cons_succ]
            obtain ⟨Y, hY⟩ : ∃ Y, Y = wr.heap.size := ⟨_, rfl⟩
            refine gen_anyH (S2 := fun z => Below B wr z ∧ z.heap[Y]? = some (.cells #[.int .i64 0, .int .i64 0, .int .i64 0, .int .i64 0, .bool false, .int .i64 0, .int .i64 0, .slice none 0 0, .slice none 0 0] 33 (0, 0)) ∧ B ≤ Y) ⟨hS.alloc (HSz.out _ hS) _, by rw [hY]; exact heap_alloc_new _ _, by rw [hY]; have hz := HSz.out _ hS; exact hz⟩ (fun wv hu => ?_)
            clear hS
            rw [← hY]
            clear hY
            obtain ⟨hS, hYb, hYl⟩ := hu
            refine wpAnyH_ready (rs := [18]) (by kernel_rfl) (by simp) ?_
            refine AllReadyH.cons (o := ⟨_, _, _, _, _, _⟩) rfl (fun K hK => ?_) AllReadyH.nil
            go_simp
            refine (HSm.out tn _).mono ?_
            rintro e w2 ⟨rfl, hb⟩
            go_wp2_with fail
            have hS1 := hS.trans (hb.mono (HSz.out _ hS))
            refine hK.out _ _ hS1 (fun hSd => ?_)
            replace hYb := (hb.block _ (lt_of_block hYb)).trans hYb
            clear hSd hK K hS hb
            try simp only [Act.put, List.setIfInBounds_toArray, List.set_cons_zero, List.set_cons_succ]
            have hS := hS1
            clear hS1
            clear wv
            generalize w2 = wv at hS hYb ⊢
            refine wpAnyH_take (i := 19) (oi := ⟨_, _, _, _, _, _⟩) (v := ?v20) rfl (by kernel_rfl) (by kernel_rfl) (by kernel_rfl) (fun _ _ _ h => h) ?y20 hS ?_
            case y20 => first | (refine Or.inr ⟨by rfl, ?_⟩; with_reducible rfl) | (refine Or.inl ⟨by rfl, ?_⟩; intro wS hSw; go_simp; try with_reducible rfl)
            simp only [Act.put, List.setIfInBounds_toArray, List.set_cons_zero, List.set_cons_succ]
            refine wpAnyH_ready (rs := [21]) (by kernel_rfl) (by simp) ?_
            refine AllReadyH.cons (o := ⟨_, _, _, _, _, _⟩) rfl (fun K hK => ?_) AllReadyH.nil
            refine step_store_block wv (by rfl) 33 33 (.tmp 4) (.tmp 35) (by rfl) Y _ ?cc2 (by rfl) ?hx2 hYb ?hi2 ?hs2 ?h12 ?_
            case hx2 => rfl
            case hi2 => exact hszD
            case hs2 => rfl
            case h12 => simp [Value.oneCell', someX]
            refine hK.out _ _ (below_setRow hS hYl hBl) (fun hS3 => ?_)
            clear hK K
            try simp only [Act.put, List.setIfInBounds_toArray, List.set_cons_zero, List.set_cons_succ]
            refine wpAnyH_done (by kernel_rfl) ?_ _
            obtain ⟨za, hza⟩ : ∃ z, z = bits BinOp.and IntKind.i64 ((n : Int) / 2 ^ (2 * (tn : Int)).toNat) 1 := ⟨_, rfl⟩
            obtain ⟨zc, hzc⟩ : ∃ z, z = bits BinOp.and IntKind.i64 ((n : Int) / 2 ^ (2 * (tn : Int) + 1).toNat) 1 := ⟨_, rfl⟩
            obtain ⟨zb, hzb⟩ : ∃ z, z = IntKind.i64.wrap ((tn : Int).tmod 2 * bits BinOp.and IntKind.i64 (n : Int) 1) := ⟨_, rfl⟩
            rw [← hza, ← hzb, ← hzc] at hS3 ⊢
            have wa : W64 za := w64_of_bits hza
            have wb : W64 zb := w64_of_wrap hzb
            have wc : W64 zc := w64_of_bits hzc
            have hkk : kyOk ⟨za, zb, zc⟩ := And.intro wa (And.intro wb wc)
            clear wa wb wc
            clear hza hzb hzc
            have hx9 := setRow_heap wv Y _ #[.int .i64 0, .int .i64 za, .int .i64 zb, .int .i64 zc, .bool true, .int .i64 tn, .int .i64 0, .slice none 0 0, .slice none 0 0] _ _ hYb
            go_upto_region 9 with (fail)
            refine gen_world (S := fun v => Below wr.heap.size wr v ∧ ∃ dk : Ky, kyOk dk ∧ v.heap[Y]? = some (.cells #[.int .i64 0, .int .i64 dk.rule, .int .i64 dk.level, .int .i64 dk.place, .bool true, .int .i64 tn, .int .i64 0, .slice none 0 0, .slice none 0 0] 33 (0, 0))) ⟨HEz.out _ hS3, ⟨za, zb, zc⟩, hkk, hx9⟩ (fun u hu => ?_)
            clear hkk hx9
            clear hS hS3 hYb hYl
            obtain ⟨hb, dk, hdk, hx⟩ := hu
            have HB4 := Lib.hid (HL.out.2.2.2.trans (hb.mono HL.out.2.2.2.size))
            have HR4 := Lib.hid (row_later HL.out.2.2.1 hb)
            have HDk := Lib.hid hdk
            obtain ⟨z0, z1, z2, z3, z4, z5, z6, z7, z8⟩ := nine_box hx
            clear hb hdk hx h1 h2 h3 h4 h5 h6
            have HPl := Lib.hid (show ∀ d ∈ [dd 0 dk (someX tn)], Plain d from fun d hd => by
              simp at hd; subst hd; exact ⟨HDk.out, rfl, rfl, rfl, rfl⟩)
            go_wp2_with (at_builtin; refine wpList_append_tu (by rfl) (.tmp 36) (.tmp 38) 22 22 (by rfl) wd.heap.size 33 33 i0 _ 9 104 Tryz.underlying22 Tryz.underlying22 hi0 hz0 hz1 hz2 rfl (by decide) ta tn tc (l.flatMap dec) (by rfl) (row_later HR4.out ((Below.refl _ u).alloc (Nat.le_refl _) _)) (some ⟨u.heap.size, 0, none⟩) 1 1 ([dd 0 dk (someX tn)].flatMap dec) (by rfl) (fun h => by cases h) rfl (fun ad h => by cases h; exact World.news_of_block (cs := #[.int .i64 0, .int .i64 dk.rule, .int .i64 dk.level, .int .i64 dk.place, .bool true, .int .i64 tn, .int .i64 0, .slice none 0 0, .slice none 0 0]) (t := 33) (fr := (0, 0)) (heap_alloc_new u _)) (dd_one HPl.out) (by unfold maxLen; omega) (by omega) (Nat.le_trans HB4.out.size (by simp)) ?_; intro v2 w5 hown2 hgrow2; obtain ⟨a2, c2, rfl⟩ := own_val hown2; have HO := Lib.hid (show DdOwn wd.heap.size w5 (.slice a2 (tn + 1) c2) (tn + 1) (l ++ [dd 0 dk (someX tn)]) from by unfold DdOwn; rw [List.flatMap_append]; exact hown2); have HB5 := Lib.hid ((HB4.out.alloc HB4.out.size (.cells #[.int .i64 0, .int .i64 dk.rule, .int .i64 dk.level, .int .i64 dk.place, .bool true, .int .i64 tn, .int .i64 0, .slice none 0 0, .slice none 0 0] 33)).grown hgrow2 (Nat.le_trans HB4.out.size (by simp)) (fun k hk => (HR4.out.lt k hk).1)); clear hown2 hgrow2)
            go_roundw
            case rel => exact ⟨tn + 1, tn + 1, a2, c2, l ++ [dd 0 dk (someX tn)], by omega, by go_num, rfl, rfl, Lib.hid ⟨by rw [List.length_append, HL.out.1]; rfl, fun d hd => (List.mem_append.1 hd).elim (HL.out.2.1 d) (HPl.out d), HO.out, HB5.out⟩⟩
            case measure => simp [intOf]; omega
        · have htn : tn = 5 := by omega
          have hk6 : ¬ (tn : Int) < 5 := by omega
          have HTn := Lib.hid htn
          obtain ⟨j5, e5, e5', hj5⟩ := tmod_nat n 5 (by omega)
          obtain ⟨j3, e3, e3', hj3⟩ := tmod_nat n 3 (by omega)
          obtain ⟨j4, e4, e4', hj4⟩ := tmod_nat n 4 (by omega)
          simp only [Int.cast_ofNat_Int] at e5 e5' e3 e3' e4 e4'
          have hrow := HL.out.2.2.1
          obtain ⟨gl, tc', hv⟩ := own_shape hrow (by omega)
          simp only [Value.slice.injEq, true_and] at hv
          obtain ⟨rfl, rfl⟩ := hv
          have hcap := own_cap hrow
          have b5 : (j5 : Int) < tn := by omega
          have b3 : (j3 : Int) < tn := by omega
          have b2 : (2 : Int) < tn := by omega
          have hl5 : ∀ j, j < 5 → j < l.length := fun j hj => by rw [HL.out.1, htn]; exact hj
          have HCl := Lib.hid (show ∀ z : World, z.ownsRow wd.heap.size 33 9 (.slice (some ⟨gl, 0, none⟩) tn tc) tn (l.flatMap dec) → ∀ j (hj : j < 5), z.cell? ⟨gl, j * 9 + 1, none⟩ = some (.int .i64 (l[j]'(hl5 j hj)).k.rule) ∧ z.cell? ⟨gl, j * 9 + 2, none⟩ = some (.int .i64 (l[j]'(hl5 j hj)).k.level) ∧ z.cell? ⟨gl, j * 9 + 3, none⟩ = some (.int .i64 (l[j]'(hl5 j hj)).k.place) from fun z hz j hj => by
            have := fun c hc => (own_cellC dec_len hz j (hl5 j hj) c hc).1
            exact ⟨this 1 (by omega), this 2 (by omega), this 3 (by omega)⟩)
          obtain ⟨q5, hq5⟩ : ∃ q, q = (l[j5]'(hl5 j5 hj5)).k := ⟨_, rfl⟩
          obtain ⟨q3, hq3⟩ : ∃ q, q = (l[j3]'(hl5 j3 (by omega))).k := ⟨_, rfl⟩
          obtain ⟨q2, hq2⟩ : ∃ q, q = (l[2]'(hl5 2 (by omega))).k := ⟨_, rfl⟩
          have HKo := Lib.hid (show kyOk q5 ∧ kyOk q3 ∧ kyOk q2 from ⟨by rw [hq5]; exact (HL.out.2.1 _ (List.getElem_mem _)).1, by rw [hq3]; exact (HL.out.2.1 _ (List.getElem_mem _)).1, by rw [hq2]; exact (HL.out.2.1 _ (List.getElem_mem _)).1⟩)
          have HC := Lib.hid (show ∀ z : World, z.ownsRow wd.heap.size 33 9 (.slice (some ⟨gl, 0, none⟩) tn tc) tn (l.flatMap dec) → (z.cell? ⟨gl, j5 * 9 + 1, none⟩ = some (.int .i64 q5.rule) ∧ z.cell? ⟨gl, j5 * 9 + 2, none⟩ = some (.int .i64 q5.level) ∧ z.cell? ⟨gl, j5 * 9 + 3, none⟩ = some (.int .i64 q5.place)) ∧ (z.cell? ⟨gl, j3 * 9 + 1, none⟩ = some (.int .i64 q3.rule) ∧ z.cell? ⟨gl, j3 * 9 + 2, none⟩ = some (.int .i64 q3.level) ∧ z.cell? ⟨gl, j3 * 9 + 3, none⟩ = some (.int .i64 q3.place)) ∧ (z.cell? ⟨gl, 19, none⟩ = some (.int .i64 q2.rule) ∧ z.cell? ⟨gl, 20, none⟩ = some (.int .i64 q2.level) ∧ z.cell? ⟨gl, 21, none⟩ = some (.int .i64 q2.place)) from fun z hz => by
            rw [hq5, hq3, hq2]
            exact ⟨HCl.out z hz j5 hj5, HCl.out z hz j3 (by omega), HCl.out z hz 2 (by omega)⟩)
          clear hq5 hq3 hq2 HCl htn hl5
          go_upto_region 10 with (fail)
          refine wp_region_held_drew (S := fun z => Below wd.heap.size wd z ∧ z.ownsRow wd.heap.size 33 9 (.slice (some ⟨gl, 0, none⟩) tn tc) tn (l.flatMap dec)) (by kernel_rfl) ⟨HL.out.2.2.2.drew, hrow⟩ (fun hS => ?_)
          clear hrow
          refine wpAnyH_take (i := 0) (oi := ⟨_, _, _, _, _, _⟩) (v := ?v21) rfl (by kernel_rfl) (by kernel_rfl) (by kernel_rfl) (fun _ _ _ h => h) ?y21 hS ?_
          case y21 => first | (refine Or.inr ⟨by rfl, ?_⟩; with_reducible rfl) | (refine Or.inl ⟨by rfl, ?_⟩; intro wS hSw; obtain ⟨⟨a1, a2, a3⟩, ⟨b1, b2', b3'⟩, ⟨d1, d2, d3⟩⟩ := HC.out wS hSw.2; go_simp; try with_reducible rfl)
          simp only [Act.put, List.setIfInBounds_toArray, List.set_cons_zero, List.set_cons_succ]
          refine wpAnyH_take (i := 1) (oi := ⟨_, _, _, _, _, _⟩) (v := ?v22) rfl (by kernel_rfl) (by kernel_rfl) (by kernel_rfl) (fun _ _ _ h => h) ?y22 hS ?_
          case y22 => first | (refine Or.inr ⟨by rfl, ?_⟩; with_reducible rfl) | (refine Or.inl ⟨by rfl, ?_⟩; intro wS hSw; obtain ⟨⟨a1, a2, a3⟩, ⟨b1, b2', b3'⟩, ⟨d1, d2, d3⟩⟩ := HC.out wS hSw.2; go_simp; try with_reducible rfl)
          simp only [Act.put, List.setIfInBounds_toArray, List.set_cons_zero, List.set_cons_succ]
          refine wpAnyH_take (i := 2) (oi := ⟨_, _, _, _, _, _⟩) (v := ?v23) rfl (by kernel_rfl) (by kernel_rfl) (by kernel_rfl) (fun _ _ _ h => h) ?y23 hS ?_
          case y23 => first | (refine Or.inr ⟨by rfl, ?_⟩; with_reducible rfl) | (refine Or.inl ⟨by rfl, ?_⟩; intro wS hSw; obtain ⟨⟨a1, a2, a3⟩, ⟨b1, b2', b3'⟩, ⟨d1, d2, d3⟩⟩ := HC.out wS hSw.2; go_simp; try with_reducible rfl)
          simp only [Act.put, List.setIfInBounds_toArray, List.set_cons_zero, List.set_cons_succ]
          refine wpAnyH_take (i := 3) (oi := ⟨_, _, _, _, _, _⟩) (v := ?v24) rfl (by kernel_rfl) (by kernel_rfl) (by kernel_rfl) (fun _ _ _ h => h) ?y24 hS ?_
          case y24 => first | (refine Or.inr ⟨by rfl, ?_⟩; with_reducible rfl) | (refine Or.inl ⟨by rfl, ?_⟩; intro wS hSw; obtain ⟨⟨a1, a2, a3⟩, ⟨b1, b2', b3'⟩, ⟨d1, d2, d3⟩⟩ := HC.out wS hSw.2; go_simp; try with_reducible rfl)
          simp only [Act.put, List.setIfInBounds_toArray, List.set_cons_zero, List.set_cons_succ]
          refine wpAnyH_take (i := 4) (oi := ⟨_, _, _, _, _, _⟩) (v := ?v25) rfl (by kernel_rfl) (by kernel_rfl) (by kernel_rfl) (fun _ _ _ h => h) ?y25 hS ?_
          case y25 => first | (refine Or.inr ⟨by rfl, ?_⟩; with_reducible rfl) | (refine Or.inl ⟨by rfl, ?_⟩; intro wS hSw; obtain ⟨⟨a1, a2, a3⟩, ⟨b1, b2', b3'⟩, ⟨d1, d2, d3⟩⟩ := HC.out wS hSw.2; go_simp; try with_reducible rfl)
          simp only [Act.put, List.setIfInBounds_toArray, List.set_cons_zero, List.set_cons_succ]
          refine wpAnyH_take (i := 5) (oi := ⟨_, _, _, _, _, _⟩) (v := ?v26) rfl (by kernel_rfl) (by kernel_rfl) (by kernel_rfl) (fun _ _ _ h => h) ?y26 hS ?_
          case y26 => first | (refine Or.inr ⟨by rfl, ?_⟩; with_reducible rfl) | (refine Or.inl ⟨by rfl, ?_⟩; intro wS hSw; obtain ⟨⟨a1, a2, a3⟩, ⟨b1, b2', b3'⟩, ⟨d1, d2, d3⟩⟩ := HC.out wS hSw.2; go_simp; try with_reducible rfl)
          simp only [Act.put, List.setIfInBounds_toArray, List.set_cons_zero, List.set_cons_succ]
          refine wpAnyH_take (i := 6) (oi := ⟨_, _, _, _, _, _⟩) (v := ?v27) rfl (by kernel_rfl) (by kernel_rfl) (by kernel_rfl) (fun _ _ _ h => h) ?y27 hS ?_
          case y27 => first | (refine Or.inr ⟨by rfl, ?_⟩; with_reducible rfl) | (refine Or.inl ⟨by rfl, ?_⟩; intro wS hSw; obtain ⟨⟨a1, a2, a3⟩, ⟨b1, b2', b3'⟩, ⟨d1, d2, d3⟩⟩ := HC.out wS hSw.2; go_simp; try with_reducible rfl)
          simp only [Act.put, List.setIfInBounds_toArray, List.set_cons_zero, List.set_cons_succ]
          refine wpAnyH_take (i := 7) (oi := ⟨_, _, _, _, _, _⟩) (v := ?v28) rfl (by kernel_rfl) (by kernel_rfl) (by kernel_rfl) (fun _ _ _ h => h) ?y28 hS ?_
          case y28 => first | (refine Or.inr ⟨by rfl, ?_⟩; with_reducible rfl) | (refine Or.inl ⟨by rfl, ?_⟩; intro wS hSw; obtain ⟨⟨a1, a2, a3⟩, ⟨b1, b2', b3'⟩, ⟨d1, d2, d3⟩⟩ := HC.out wS hSw.2; go_simp; try with_reducible rfl)
          simp only [Act.put, List.setIfInBounds_toArray, List.set_cons_zero, List.set_cons_succ]
          refine wpAnyH_take (i := 8) (oi := ⟨_, _, _, _, _, _⟩) (v := ?v29) rfl (by kernel_rfl) (by kernel_rfl) (by kernel_rfl) (fun _ _ _ h => h) ?y29 hS ?_
          case y29 => first | (refine Or.inr ⟨by rfl, ?_⟩; with_reducible rfl) | (refine Or.inl ⟨by rfl, ?_⟩; intro wS hSw; obtain ⟨⟨a1, a2, a3⟩, ⟨b1, b2', b3'⟩, ⟨d1, d2, d3⟩⟩ := HC.out wS hSw.2; go_simp; try with_reducible rfl)
          simp only [Act.put, List.setIfInBounds_toArray, List.set_cons_zero, List.set_cons_succ]
          refine wpAnyH_take (i := 9) (oi := ⟨_, _, _, _, _, _⟩) (v := ?v30) rfl (by kernel_rfl) (by kernel_rfl) (by kernel_rfl) (fun _ _ _ h => h) ?y30 hS ?_
          case y30 => first | (refine Or.inr ⟨by rfl, ?_⟩; with_reducible rfl) | (refine Or.inl ⟨by rfl, ?_⟩; intro wS hSw; obtain ⟨⟨a1, a2, a3⟩, ⟨b1, b2', b3'⟩, ⟨d1, d2, d3⟩⟩ := HC.out wS hSw.2; go_simp; try with_reducible rfl)
          simp only [Act.put, List.setIfInBounds_toArray, List.set_cons_zero, List.set_cons_succ]
          refine wpAnyH_take (i := 10) (oi := ⟨_, _, _, _, _, _⟩) (v := ?v31) rfl (by kernel_rfl) (by kernel_rfl) (by kernel_rfl) (fun _ _ _ h => h) ?y31 hS ?_
          case y31 => first | (refine Or.inr ⟨by rfl, ?_⟩; with_reducible rfl) | (refine Or.inl ⟨by rfl, ?_⟩; intro wS hSw; obtain ⟨⟨a1, a2, a3⟩, ⟨b1, b2', b3'⟩, ⟨d1, d2, d3⟩⟩ := HC.out wS hSw.2; go_simp; try with_reducible rfl)
          simp only [Act.put, List.setIfInBounds_toArray, List.set_cons_zero, List.set_cons_succ]
          refine wpAnyH_take (i := 11) (oi := ⟨_, _, _, _, _, _⟩) (v := ?v32) rfl (by kernel_rfl) (by kernel_rfl) (by kernel_rfl) (fun _ _ _ h => h) ?y32 hS ?_
          case y32 => first | (refine Or.inr ⟨by rfl, ?_⟩; with_reducible rfl) | (refine Or.inl ⟨by rfl, ?_⟩; intro wS hSw; obtain ⟨⟨a1, a2, a3⟩, ⟨b1, b2', b3'⟩, ⟨d1, d2, d3⟩⟩ := HC.out wS hSw.2; go_simp; try with_reducible rfl)
          simp only [Act.put, List.setIfInBounds_toArray, List.set_cons_zero, List.set_cons_succ]
          refine wpAnyH_take (i := 12) (oi := ⟨_, _, _, _, _, _⟩) (v := ?v33) rfl (by kernel_rfl) (by kernel_rfl) (by kernel_rfl) (fun _ _ _ h => h) ?y33 hS ?_
          case y33 => first | (refine Or.inr ⟨by rfl, ?_⟩; with_reducible rfl) | (refine Or.inl ⟨by rfl, ?_⟩; intro wS hSw; obtain ⟨⟨a1, a2, a3⟩, ⟨b1, b2', b3'⟩, ⟨d1, d2, d3⟩⟩ := HC.out wS hSw.2; go_simp; try with_reducible rfl)
          simp only [Act.put, List.setIfInBounds_toArray, List.set_cons_zero, List.set_cons_succ]
          refine wpAnyH_take (i := 13) (oi := ⟨_, _, _, _, _, _⟩) (v := ?v34) rfl (by kernel_rfl) (by kernel_rfl) (by kernel_rfl) (fun _ _ _ h => h) ?y34 hS ?_
          case y34 => first | (refine Or.inr ⟨by rfl, ?_⟩; with_reducible rfl) | (refine Or.inl ⟨by rfl, ?_⟩; intro wS hSw; obtain ⟨⟨a1, a2, a3⟩, ⟨b1, b2', b3'⟩, ⟨d1, d2, d3⟩⟩ := HC.out wS hSw.2; go_simp; try with_reducible rfl)
          simp only [Act.put, List.setIfInBounds_toArray, List.set_cons_zero, List.set_cons_succ]
          refine wpAnyH_take (i := 14) (oi := ⟨_, _, _, _, _, _⟩) (v := ?v35) rfl (by kernel_rfl) (by kernel_rfl) (by kernel_rfl) (fun _ _ _ h => h) ?y35 hS ?_
          case y35 => first | (refine Or.inr ⟨by rfl, ?_⟩; with_reducible rfl) | (refine Or.inl ⟨by rfl, ?_⟩; intro wS hSw; obtain ⟨⟨a1, a2, a3⟩, ⟨b1, b2', b3'⟩, ⟨d1, d2, d3⟩⟩ := HC.out wS hSw.2; go_simp; try with_reducible rfl)
          simp only [Act.put, List.setIfInBounds_toArray, List.set_cons_zero, List.set_cons_succ]
          refine wpAnyH_take (i := 15) (oi := ⟨_, _, _, _, _, _⟩) (v := ?v36) rfl (by kernel_rfl) (by kernel_rfl) (by kernel_rfl) (fun _ _ _ h => h) ?y36 hS ?_
          case y36 => first | (refine Or.inr ⟨by rfl, ?_⟩; with_reducible rfl) | (refine Or.inl ⟨by rfl, ?_⟩; intro wS hSw; obtain ⟨⟨a1, a2, a3⟩, ⟨b1, b2', b3'⟩, ⟨d1, d2, d3⟩⟩ := HC.out wS hSw.2; go_simp; try with_reducible rfl)
          simp only [Act.put, List.setIfInBounds_toArray, List.set_cons_zero, List.set_cons_succ]
          refine wpAnyH_take (i := 18) (oi := ⟨_, _, _, _, _, _⟩) (v := ?v37) rfl (by kernel_rfl) (by kernel_rfl) (by kernel_rfl) (fun _ _ _ h => h) ?y37 hS ?_
          case y37 => first | (refine Or.inr ⟨by rfl, ?_⟩; with_reducible rfl) | (refine Or.inl ⟨by rfl, ?_⟩; intro wS hSw; obtain ⟨⟨a1, a2, a3⟩, ⟨b1, b2', b3'⟩, ⟨d1, d2, d3⟩⟩ := HC.out wS hSw.2; go_simp; try with_reducible rfl)
          simp only [Act.put, List.setIfInBounds_toArray, List.set_cons_zero, List.set_cons_succ]
          refine wpAnyH_take (i := 19) (oi := ⟨_, _, _, _, _, _⟩) (v := ?v38) rfl (by kernel_rfl) (by kernel_rfl) (by kernel_rfl) (fun _ _ _ h => h) ?y38 hS ?_
          case y38 => first | (refine Or.inr ⟨by rfl, ?_⟩; with_reducible rfl) | (refine Or.inl ⟨by rfl, ?_⟩; intro wS hSw; obtain ⟨⟨a1, a2, a3⟩, ⟨b1, b2', b3'⟩, ⟨d1, d2, d3⟩⟩ := HC.out wS hSw.2; go_simp; try with_reducible rfl)
          simp only [Act.put, List.setIfInBounds_toArray, List.set_cons_zero, List.set_cons_succ]
          refine wpAnyH_take (i := 20) (oi := ⟨_, _, _, _, _, _⟩) (v := ?v39) rfl (by kernel_rfl) (by kernel_rfl) (by kernel_rfl) (fun _ _ _ h => h) ?y39 hS ?_
          case y39 => first | (refine Or.inr ⟨by rfl, ?_⟩; with_reducible rfl) | (refine Or.inl ⟨by rfl, ?_⟩; intro wS hSw; obtain ⟨⟨a1, a2, a3⟩, ⟨b1, b2', b3'⟩, ⟨d1, d2, d3⟩⟩ := HC.out wS hSw.2; go_simp; try with_reducible rfl)
          simp only [Act.put, List.setIfInBounds_toArray, List.set_cons_zero, List.set_cons_succ]
          refine wpAnyH_take (i := 21) (oi := ⟨_, _, _, _, _, _⟩) (v := ?v40) rfl (by kernel_rfl) (by kernel_rfl) (by kernel_rfl) (fun _ _ _ h => h) ?y40 hS ?_
          case y40 => first | (refine Or.inr ⟨by rfl, ?_⟩; with_reducible rfl) | (refine Or.inl ⟨by rfl, ?_⟩; intro wS hSw; obtain ⟨⟨a1, a2, a3⟩, ⟨b1, b2', b3'⟩, ⟨d1, d2, d3⟩⟩ := HC.out wS hSw.2; go_simp; try with_reducible rfl)
          simp only [Act.put, List.setIfInBounds_toArray, List.set_cons_zero, List.set_cons_succ]
          refine wpAnyH_ready (rs := [16]) (by kernel_rfl) (by simp) ?_
          refine AllReadyH.cons (o := ⟨_, _, _, _, _, _⟩) rfl (fun K hK => ?_) AllReadyH.nil
          go_simp
          refine (HSm.out 9 _).mono ?_
          rintro e w2 ⟨rfl, hb⟩
          go_wp2_with fail
          have hS1 := And.intro (hS.1.trans (hb.mono hS.1.size)) (row_later hS.2 hb)
          refine hK.out _ _ hS1 (fun hSd => ?_)
          clear hSd hK K hS hb
          try simp only [Act.put, List.setIfInBounds_toArray, List.set_cons_zero, List.set_cons_succ]
          have hS := hS1
          clear hS1
          refine wpAnyH_take (i := 17) (oi := ⟨_, _, _, _, _, _⟩) (v := ?v41) rfl (by kernel_rfl) (by kernel_rfl) (by kernel_rfl) (fun _ _ _ h => h) ?y41 hS ?_
          case y41 => first | (refine Or.inr ⟨by rfl, ?_⟩; with_reducible rfl) | (refine Or.inl ⟨by rfl, ?_⟩; intro wS hSw; go_simp; try with_reducible rfl)
          simp only [Act.put, List.setIfInBounds_toArray, List.set_cons_zero, List.set_cons_succ]
          refine wpAnyH_ready (rs := [22]) (by kernel_rfl) (by simp) ?_
          refine AllReadyH.cons (o := ⟨_, _, _, _, _, _⟩) rfl (fun K hK => ?_) AllReadyH.nil
          go_simp
          refine (HSm.out 8 _).mono ?_
          rintro e w3 ⟨rfl, hb⟩
          go_wp2_with fail
          have hS1 := And.intro (hS.1.trans (hb.mono hS.1.size)) (row_later hS.2 hb)
          refine hK.out _ _ hS1 (fun hSd => ?_)
          clear hSd hK K hS hb
          try simp only [Act.put, List.setIfInBounds_toArray, List.set_cons_zero, List.set_cons_succ]
          have hS := hS1
          clear hS1
          refine wpAnyH_take (i := 23) (oi := ⟨_, _, _, _, _, _⟩) (v := ?v42) rfl (by kernel_rfl) (by kernel_rfl) (by kernel_rfl) (fun _ _ _ h => h) ?y42 hS ?_
          case y42 => first | (refine Or.inr ⟨by rfl, ?_⟩; with_reducible rfl) | (refine Or.inl ⟨by rfl, ?_⟩; intro wS hSw; go_simp; try with_reducible rfl)
          simp only [Act.put, List.setIfInBounds_toArray, List.set_cons_zero, List.set_cons_succ]
          refine wpAnyH_ready (rs := [24]) (by kernel_rfl) (by simp) ?_
          refine AllReadyH.cons (o := ⟨_, _, _, _, _, _⟩) rfl (fun K hK => ?_) AllReadyH.nil
          go_simp
          have hSa := And.intro (hS.1.alloc hS.1.size (.cells #[.int .i64 1, .int .i64 q5.rule, .int .i64 q5.level, .int .i64 q5.place, .bool false, .int .i64 0, .int .i64 0, .slice none 0 0, .slice none 0 0, .int .i64 j4, .int .i64 q3.rule, .int .i64 q3.level, .int .i64 q3.place, .bool true, .int .i64 9, .int .i64 0, .slice none 0 0, .slice none 0 0, .int .i64 0, .int .i64 q2.rule, .int .i64 q2.level, .int .i64 q2.place, .bool true, .int .i64 8, .int .i64 0, .slice none 0 0, .slice none 0 0] 33 (0, 0))) (row_later hS.2 ((Below.refl _ _).alloc (Nat.le_refl _) (.cells #[.int .i64 1, .int .i64 q5.rule, .int .i64 q5.level, .int .i64 q5.place, .bool false, .int .i64 0, .int .i64 0, .slice none 0 0, .slice none 0 0, .int .i64 j4, .int .i64 q3.rule, .int .i64 q3.level, .int .i64 q3.place, .bool true, .int .i64 9, .int .i64 0, .slice none 0 0, .slice none 0 0, .int .i64 0, .int .i64 q2.rule, .int .i64 q2.level, .int .i64 q2.place, .bool true, .int .i64 8, .int .i64 0, .slice none 0 0, .slice none 0 0] 33 (0, 0))))
          refine hK.out _ _ hSa (fun hSd => ?_)
          clear hSd hK K
          try simp only [Act.put, List.setIfInBounds_toArray, List.set_cons_zero, List.set_cons_succ]
          obtain ⟨gD, hgD⟩ : ∃ n, n = w3.heap.size := ⟨_, rfl⟩
          refine gen_anyH (S2 := fun z => (Below wd.heap.size wd z ∧ z.ownsRow wd.heap.size 33 9 (.slice (some ⟨gl, 0, none⟩) tn tc) tn (l.flatMap dec)) ∧ z.heap[gD]? = some (.cells #[.int .i64 1, .int .i64 q5.rule, .int .i64 q5.level, .int .i64 q5.place, .bool false, .int .i64 0, .int .i64 0, .slice none 0 0, .slice none 0 0, .int .i64 j4, .int .i64 q3.rule, .int .i64 q3.level, .int .i64 q3.place, .bool true, .int .i64 9, .int .i64 0, .slice none 0 0, .slice none 0 0, .int .i64 0, .int .i64 q2.rule, .int .i64 q2.level, .int .i64 q2.place, .bool true, .int .i64 8, .int .i64 0, .slice none 0 0, .slice none 0 0] 33 (0, 0))) ⟨hSa, by rw [hgD]; exact heap_alloc_new _ _⟩ (fun wv hu => ?_)
          clear hSa
          clear hS
          rw [← hgD]
          clear hgD
          obtain ⟨hS, hD⟩ := hu
          refine wpAnyH_ready (rs := [25]) (by kernel_rfl) (by simp) ?_
          refine AllReadyH.cons (o := ⟨_, _, _, _, _, _⟩) rfl (fun K hK => ?_) AllReadyH.nil
          have HPl := Lib.hid (show ∀ d ∈ [dd 1 q5 zeroX, dd j4 q3 (someX 9), dd 0 q2 (someX 8)], Plain d from fun d hd => by
            simp at hd
            rcases hd with rfl | rfl | rfl
            · exact ⟨HKo.out.1, rfl, rfl, rfl, rfl⟩
            · exact ⟨HKo.out.2.1, rfl, rfl, rfl, rfl⟩
            · exact ⟨HKo.out.2.2, rfl, rfl, rfl, rfl⟩)
          refine step_append_kept _ (by rfl) _ _ 22 (by rfl) wd.heap.size 33 i0 _ 9 104 Tryz.underlying22 hi0 hz0 hz1 hz2 rfl (by decide) (.slice (some ⟨gl, 0, none⟩) tn tc) tn (l.flatMap dec) (by rfl) hS.2 ⟨gD, 0, none⟩ 3 3 ([dd 1 q5 zeroX, dd j4 q3 (someX 9), dd 0 q2 (someX 8)].flatMap dec) (by rfl) rfl (World.news_of_block hD) (dd_one HPl.out) (by omega) (by unfold maxLen; omega) (by omega) hS.1.size ?_
          intro v5 w5 hown5 hgrow5 hkept5
          obtain ⟨a5, c5, rfl⟩ := own_val hown5
          have hSa : Below wd.heap.size wd w5 := hS.1.grown hgrow5 hS.1.size (fun k hk => (hS.2.lt k hk).1)
          have hln := HL.out.1
          have hSb := And.intro hSa (kept_first (by omega) hS.2 hS.2 (Nat.le_refl _) (by omega) hgrow5 hkept5 hown5 (by
            rw [List.take_left' (by rw [flat_len dec_len, hln])]))
          refine hK.out _ _ hSb (fun hSd => ?_)
          clear hSd hK K
          try simp only [Act.put, List.setIfInBounds_toArray, List.set_cons_zero, List.set_cons_succ]
          have HO5 := Lib.hid (show DdOwn wd.heap.size w5 (.slice a5 (tn + 3) c5) (tn + 3) (l ++ [dd 1 q5 zeroX, dd j4 q3 (someX 9), dd 0 q2 (someX 8)]) from by unfold DdOwn; rw [List.flatMap_append]; exact hown5)
          have HB5 := Lib.hid hSa
          clear hown5 hgrow5 hkept5 hln hS hD hSa
          have hS := hSb
          clear hSb
          refine wpAnyH_take (i := 26) (oi := ⟨_, _, _, _, _, _⟩) (v := ?v43) rfl (by kernel_rfl) (by kernel_rfl) (by kernel_rfl) (fun _ _ _ h => h) ?y43 hS ?_
          case y43 => first | (refine Or.inr ⟨by rfl, ?_⟩; with_reducible rfl) | (refine Or.inl ⟨by rfl, ?_⟩; intro wS hSw; go_simp; try with_reducible rfl)
          simp only [Act.put, List.setIfInBounds_toArray, List.set_cons_zero, List.set_cons_succ]
          refine wpAnyH_done (by kernel_rfl) ?_ _
          clear hS
          go_wp2_with fail
          refine (HMd.out j5 _ (l ++ [dd 1 q5 zeroX, dd j4 q3 (someX 9), dd 0 q2 (someX 8)]) w5 (dd_at HO5.out (by rw [List.length_append, HL.out.1]; rfl) (fun d hd => (List.mem_append.1 hd).elim (HL.out.2.1 d) (HPl.out d)))).mono ?_
          rintro e w6 ⟨rfl, hb6⟩
          have HB6 := Lib.hid (HB.out.trans ((HB5.out.trans (hb6.mono HB5.out.size)).mono HB.out.size))
          clear hb6
          go_wp2
          go_roundw
          case rel => exact ⟨n + 1, by omega, by go_num, HB6⟩
          case measure => simp [intOf]; omega
    · have hlt2 : ¬ (n : Int) < 1024 := by omega
      go_upto_region 15 with (fail)
      refine gen_world (S := fun v => Below wr.heap.size wr v ∧ v.heap[wr.heap.size]? = some (.cells #[.int .i64 (-9223372036854775808), .int .i64 (-1), .int .i64 0, .int .i64 9223372036854775807] 3 (0, 0))) (one_new wr _) (fun u hu => ?_)
      obtain ⟨hb, hx⟩ := hu
      obtain ⟨gE, hgE⟩ : ∃ g, g = wr.heap.size := ⟨_, rfl⟩
      rw [← hgE] at hx ⊢
      have HE := Lib.hid hx
      replace HB := Lib.hid (HB.out.trans (hb.mono HB.out.size))
      clear hb hx hgE hlt hlt2 hn
      go_loopw [6] (fun i wr => ∃ k : Nat, k ≤ 4 ∧ i = .int .i64 k ∧ Hid (Below u.heap.size u wr)) (fun i _ => 4 - (intOf i).toNat)
      case atStart => exact ⟨0, Nat.zero_le _, rfl, Lib.hid (Below.refl _ _)⟩
      case round =>
        obtain ⟨k, hk, rfl, Hb⟩ := hrel
        by_cases hlt : k < 4
        · have hlt2 : (k : Int) < 4 := by omega
          obtain ⟨j2, hj2⟩ : ∃ j, j = 3 - k := ⟨_, rfl⟩
          have h23 : (3 : Int) - (k : Int) = (j2 : Int) := by omega
          have hw2 : IntKind.i64.wrap (3 - (k : Int)) = (j2 : Int) := by rw [h23]; exact IntWalk.i64_in _ (by omega)
          have hw3 : IntKind.i64.wrap (j2 : Int) = (j2 : Int) := IntWalk.i64_in _ (by omega)
          have hw1 : IntKind.i64.wrap ((k : Int) + 1) = (k : Int) + 1 := IntWalk.i64_in _ (by omega)
          obtain ⟨j3, e3, e3', hj3⟩ := tmod_nat (k + 1) 4 (by omega)
          simp only [Int.natCast_add, Int.cast_ofNat_Int, Int.natCast_one] at e3 e3'
          have b2 : (j2 : Int) < 4 := by omega
          have b3 : (j3 : Int) < 4 := by omega
          have hj2l : j2 < 4 := by omega
          have HEr := Lib.hid ((Hb.out.block _ (lt_of_block HE.out)).trans HE.out)
          obtain ⟨a0, wa, ha0⟩ := ends_at HEr.out hlt
          obtain ⟨a1, wb, ha1⟩ := ends_at HEr.out hj2l
          obtain ⟨a2, wc, ha2⟩ := ends_at HEr.out hj3
          have HKo := Lib.hid (show kyOk ⟨a0, a1, a2⟩ from And.intro wa (And.intro wb wc))
          have HC := Lib.hid (And.intro ha0 (And.intro ha1 ha2))
          clear wa wb wc ha0 ha1 ha2 hj2
          go_upto_region 17 with (fail)
          obtain ⟨B, hBe⟩ : ∃ B, B = wr.heap.size := ⟨_, rfl⟩
          have HSz := Lib.hid (show ∀ z, Below B wr z → B ≤ z.heap.size from fun z hz => by rw [hBe]; exact hz.size)
          have HEz := Lib.hid (show ∀ z, Below B wr z → Below wr.heap.size wr z from fun z hz => by rw [← hBe]; exact hz)
          have hd : Below B wr wr.drew := by rw [hBe]; exact (Below.refl wr.heap.size wr).drew
          have hBl : B ≤ wr.heap.size := by rw [hBe]; exact Nat.le_refl _
          clear hBe
          refine wp_region_held_drew (S := fun z => Below B wr z) (by kernel_rfl) hd (fun hS => ?_)
          clear hd
          refine wpAnyH_take (i := 0) (oi := ⟨_, _, _, _, _, _⟩) (v := ?v44) rfl (by kernel_rfl) (by kernel_rfl) (by kernel_rfl) (fun _ _ _ h => h) ?y44 hS ?_
          case y44 => first | (refine Or.inr ⟨by rfl, ?_⟩; with_reducible rfl) | (refine Or.inl ⟨by rfl, ?_⟩; intro wS hSw; have e0 := cell_later (HEz.out _ hSw) HC.out.1; have e1 := cell_later (HEz.out _ hSw) HC.out.2.1; have e2 := cell_later (HEz.out _ hSw) HC.out.2.2; go_simp; try with_reducible rfl)
          simp only [Act.put, List.setIfInBounds_toArray, List.set_cons_zero, List.set_cons_succ]
          refine wpAnyH_take (i := 1) (oi := ⟨_, _, _, _, _, _⟩) (v := ?v45) rfl (by kernel_rfl) (by kernel_rfl) (by kernel_rfl) (fun _ _ _ h => h) ?y45 hS ?_
          case y45 => first | (refine Or.inr ⟨by rfl, ?_⟩; with_reducible rfl) | (refine Or.inl ⟨by rfl, ?_⟩; intro wS hSw; have e0 := cell_later (HEz.out _ hSw) HC.out.1; have e1 := cell_later (HEz.out _ hSw) HC.out.2.1; have e2 := cell_later (HEz.out _ hSw) HC.out.2.2; go_simp; try with_reducible rfl)
          simp only [Act.put, List.setIfInBounds_toArray, List.set_cons_zero, List.set_cons_succ]
          refine wpAnyH_take (i := 2) (oi := ⟨_, _, _, _, _, _⟩) (v := ?v46) rfl (by kernel_rfl) (by kernel_rfl) (by kernel_rfl) (fun _ _ _ h => h) ?y46 hS ?_
          case y46 => first | (refine Or.inr ⟨by rfl, ?_⟩; with_reducible rfl) | (refine Or.inl ⟨by rfl, ?_⟩; intro wS hSw; have e0 := cell_later (HEz.out _ hSw) HC.out.1; have e1 := cell_later (HEz.out _ hSw) HC.out.2.1; have e2 := cell_later (HEz.out _ hSw) HC.out.2.2; go_simp; try with_reducible rfl)
          simp only [Act.put, List.setIfInBounds_toArray, List.set_cons_zero, List.set_cons_succ]
          refine wpAnyH_take (i := 3) (oi := ⟨_, _, _, _, _, _⟩) (v := ?v47) rfl (by kernel_rfl) (by kernel_rfl) (by kernel_rfl) (fun _ _ _ h => h) ?y47 hS ?_
          case y47 => first | (refine Or.inr ⟨by rfl, ?_⟩; with_reducible rfl) | (refine Or.inl ⟨by rfl, ?_⟩; intro wS hSw; have e0 := cell_later (HEz.out _ hSw) HC.out.1; have e1 := cell_later (HEz.out _ hSw) HC.out.2.1; have e2 := cell_later (HEz.out _ hSw) HC.out.2.2; go_simp; try with_reducible rfl)
          simp only [Act.put, List.setIfInBounds_toArray, List.set_cons_zero, List.set_cons_succ]
          refine wpAnyH_take (i := 4) (oi := ⟨_, _, _, _, _, _⟩) (v := ?v48) rfl (by kernel_rfl) (by kernel_rfl) (by kernel_rfl) (fun _ _ _ h => h) ?y48 hS ?_
          case y48 => first | (refine Or.inr ⟨by rfl, ?_⟩; with_reducible rfl) | (refine Or.inl ⟨by rfl, ?_⟩; intro wS hSw; have e0 := cell_later (HEz.out _ hSw) HC.out.1; have e1 := cell_later (HEz.out _ hSw) HC.out.2.1; have e2 := cell_later (HEz.out _ hSw) HC.out.2.2; go_simp; try with_reducible rfl)
          simp only [Act.put, List.setIfInBounds_toArray, List.set_cons_zero, List.set_cons_succ]
          refine wpAnyH_take (i := 5) (oi := ⟨_, _, _, _, _, _⟩) (v := ?v49) rfl (by kernel_rfl) (by kernel_rfl) (by kernel_rfl) (fun _ _ _ h => h) ?y49 hS ?_
          case y49 => first | (refine Or.inr ⟨by rfl, ?_⟩; with_reducible rfl) | (refine Or.inl ⟨by rfl, ?_⟩; intro wS hSw; have e0 := cell_later (HEz.out _ hSw) HC.out.1; have e1 := cell_later (HEz.out _ hSw) HC.out.2.1; have e2 := cell_later (HEz.out _ hSw) HC.out.2.2; go_simp; try with_reducible rfl)
          simp only [Act.put, List.setIfInBounds_toArray, List.set_cons_zero, List.set_cons_succ]
          refine wpAnyH_take (i := 6) (oi := ⟨_, _, _, _, _, _⟩) (v := ?v50) rfl (by kernel_rfl) (by kernel_rfl) (by kernel_rfl) (fun _ _ _ h => h) ?y50 hS ?_
          case y50 => first | (refine Or.inr ⟨by rfl, ?_⟩; with_reducible rfl) | (refine Or.inl ⟨by rfl, ?_⟩; intro wS hSw; have e0 := cell_later (HEz.out _ hSw) HC.out.1; have e1 := cell_later (HEz.out _ hSw) HC.out.2.1; have e2 := cell_later (HEz.out _ hSw) HC.out.2.2; go_simp; try with_reducible rfl)
          simp only [Act.put, List.setIfInBounds_toArray, List.set_cons_zero, List.set_cons_succ]
          refine wpAnyH_take (i := 7) (oi := ⟨_, _, _, _, _, _⟩) (v := ?v51) rfl (by kernel_rfl) (by kernel_rfl) (by kernel_rfl) (fun _ _ _ h => h) ?y51 hS ?_
          case y51 => first | (refine Or.inr ⟨by rfl, ?_⟩; with_reducible rfl) | (refine Or.inl ⟨by rfl, ?_⟩; intro wS hSw; have e0 := cell_later (HEz.out _ hSw) HC.out.1; have e1 := cell_later (HEz.out _ hSw) HC.out.2.1; have e2 := cell_later (HEz.out _ hSw) HC.out.2.2; go_simp; try with_reducible rfl)
          simp only [Act.put, List.setIfInBounds_toArray, List.set_cons_zero, List.set_cons_succ]
          refine wpAnyH_take (i := 8) (oi := ⟨_, _, _, _, _, _⟩) (v := ?v52) rfl (by kernel_rfl) (by kernel_rfl) (by kernel_rfl) (fun _ _ _ h => h) ?y52 hS ?_
          case y52 => first | (refine Or.inr ⟨by rfl, ?_⟩; with_reducible rfl) | (refine Or.inl ⟨by rfl, ?_⟩; intro wS hSw; have e0 := cell_later (HEz.out _ hSw) HC.out.1; have e1 := cell_later (HEz.out _ hSw) HC.out.2.1; have e2 := cell_later (HEz.out _ hSw) HC.out.2.2; go_simp; try with_reducible rfl)
          simp only [Act.put, List.setIfInBounds_toArray, List.set_cons_zero, List.set_cons_succ]
          refine wpAnyH_take (i := 9) (oi := ⟨_, _, _, _, _, _⟩) (v := ?v53) rfl (by kernel_rfl) (by kernel_rfl) (by kernel_rfl) (fun _ _ _ h => h) ?y53 hS ?_
          case y53 => first | (refine Or.inr ⟨by rfl, ?_⟩; with_reducible rfl) | (refine Or.inl ⟨by rfl, ?_⟩; intro wS hSw; have e0 := cell_later (HEz.out _ hSw) HC.out.1; have e1 := cell_later (HEz.out _ hSw) HC.out.2.1; have e2 := cell_later (HEz.out _ hSw) HC.out.2.2; go_simp; try with_reducible rfl)
          simp only [Act.put, List.setIfInBounds_toArray, List.set_cons_zero, List.set_cons_succ]
          refine wpAnyH_take (i := 10) (oi := ⟨_, _, _, _, _, _⟩) (v := ?v54) rfl (by kernel_rfl) (by kernel_rfl) (by kernel_rfl) (fun _ _ _ h => h) ?y54 hS ?_
          case y54 => first | (refine Or.inr ⟨by rfl, ?_⟩; with_reducible rfl) | (refine Or.inl ⟨by rfl, ?_⟩; intro wS hSw; have e0 := cell_later (HEz.out _ hSw) HC.out.1; have e1 := cell_later (HEz.out _ hSw) HC.out.2.1; have e2 := cell_later (HEz.out _ hSw) HC.out.2.2; go_simp; try with_reducible rfl)
          simp only [Act.put, List.setIfInBounds_toArray, List.set_cons_zero, List.set_cons_succ]
          refine wpAnyH_take (i := 11) (oi := ⟨_, _, _, _, _, _⟩) (v := ?v55) rfl (by kernel_rfl) (by kernel_rfl) (by kernel_rfl) (fun _ _ _ h => h) ?y55 hS ?_
          case y55 => first | (refine Or.inr ⟨by rfl, ?_⟩; with_reducible rfl) | (refine Or.inl ⟨by rfl, ?_⟩; intro wS hSw; have e0 := cell_later (HEz.out _ hSw) HC.out.1; have e1 := cell_later (HEz.out _ hSw) HC.out.2.1; have e2 := cell_later (HEz.out _ hSw) HC.out.2.2; go_simp; try with_reducible rfl)
          simp only [Act.put, List.setIfInBounds_toArray, List.set_cons_zero, List.set_cons_succ]
          refine wpAnyH_take (i := 12) (oi := ⟨_, _, _, _, _, _⟩) (v := ?v56) rfl (by kernel_rfl) (by kernel_rfl) (by kernel_rfl) (fun _ _ _ h => h) ?y56 hS ?_
          case y56 => first | (refine Or.inr ⟨by rfl, ?_⟩; with_reducible rfl) | (refine Or.inl ⟨by rfl, ?_⟩; intro wS hSw; have e0 := cell_later (HEz.out _ hSw) HC.out.1; have e1 := cell_later (HEz.out _ hSw) HC.out.2.1; have e2 := cell_later (HEz.out _ hSw) HC.out.2.2; go_simp; try with_reducible rfl)
          simp only [Act.put, List.setIfInBounds_toArray, List.set_cons_zero, List.set_cons_succ]
          refine wpAnyH_take (i := 13) (oi := ⟨_, _, _, _, _, _⟩) (v := ?v57) rfl (by kernel_rfl) (by kernel_rfl) (by kernel_rfl) (fun _ _ _ h => h) ?y57 hS ?_
          case y57 => first | (refine Or.inr ⟨by rfl, ?_⟩; with_reducible rfl) | (refine Or.inl ⟨by rfl, ?_⟩; intro wS hSw; have e0 := cell_later (HEz.out _ hSw) HC.out.1; have e1 := cell_later (HEz.out _ hSw) HC.out.2.1; have e2 := cell_later (HEz.out _ hSw) HC.out.2.2; go_simp; try with_reducible rfl)
          simp only [Act.put, List.setIfInBounds_toArray, List.set_cons_zero, List.set_cons_succ]
          refine wpAnyH_take (i := 14) (oi := ⟨_, _, _, _, _, _⟩) (v := ?v58) rfl (by kernel_rfl) (by kernel_rfl) (by kernel_rfl) (fun _ _ _ h => h) ?y58 hS ?_
          case y58 => first | (refine Or.inr ⟨by rfl, ?_⟩; with_reducible rfl) | (refine Or.inl ⟨by rfl, ?_⟩; intro wS hSw; have e0 := cell_later (HEz.out _ hSw) HC.out.1; have e1 := cell_later (HEz.out _ hSw) HC.out.2.1; have e2 := cell_later (HEz.out _ hSw) HC.out.2.2; go_simp; try with_reducible rfl)
          simp only [Act.put, List.setIfInBounds_toArray, List.set_cons_zero, List.set_cons_succ]
          refine wpAnyH_take (i := 15) (oi := ⟨_, _, _, _, _, _⟩) (v := ?v59) rfl (by kernel_rfl) (by kernel_rfl) (by kernel_rfl) (fun _ _ _ h => h) ?y59 hS ?_
          case y59 => first | (refine Or.inr ⟨by rfl, ?_⟩; with_reducible rfl) | (refine Or.inl ⟨by rfl, ?_⟩; intro wS hSw; have e0 := cell_later (HEz.out _ hSw) HC.out.1; have e1 := cell_later (HEz.out _ hSw) HC.out.2.1; have e2 := cell_later (HEz.out _ hSw) HC.out.2.2; go_simp; try with_reducible rfl)
          simp only [Act.put, List.setIfInBounds_toArray, List.set_cons_zero, List.set_cons_succ]
          refine wpAnyH_ready (rs := [16]) (by kernel_rfl) (by simp) ?_
          refine AllReadyH.cons (o := ⟨_, _, _, _, _, _⟩) rfl (fun K hK => ?_) AllReadyH.nil
          go_simp
          refine hK.out _ _ (hS.alloc (HSz.out _ hS) _) (fun hSd => ?_)
          clear hSd hK K
          try simp only [Act.put, List.setIfInBounds_toArray, List.set_cons_zero, List.set_cons_succ]
          obtain ⟨X, hX⟩ : ∃ X, X = wr.heap.size := ⟨_, rfl⟩
          refine gen_anyH (S2 := fun z => Below B wr z ∧ z.heap[X]? = some (.cells #[.int .i64 0, .int .i64 0, .int .i64 0] 24 (0, 0)) ∧ B ≤ X) ⟨hS.alloc (HSz.out _ hS) _, by rw [hX]; exact heap_alloc_new _ _, by rw [hX]; exact hBl⟩ (fun wv hu => ?_)
          clear hS
          rw [← hX]
          clear hX
          obtain ⟨hS, hXb, hXl⟩ := hu
          refine wpAnyH_ready (rs := [17]) (by kernel_rfl) (by simp) ?_
          refine AllReadyH.cons (o := ⟨_, _, _, _, _, _⟩) rfl (fun K hK => ?_) AllReadyH.nil
          refine step_store_block wv (by rfl) 24 24 (.tmp 7) (.tmp 91) (by rfl) X _ ?ccK (by rfl) ?hxK hXb ?hiK ?hsK ?h1K ?_
          case hxK => rfl
          case hiK => exact hszK
          case hsK => rfl
          case h1K => simp [Value.oneCell']
          refine hK.out _ _ (below_setRow hS hXl hBl) (fun hS3 => ?_)
          clear hK K
          try simp only [Act.put, List.setIfInBounds_toArray, List.set_cons_zero, List.set_cons_succ]
          refine wpAnyH_done (by kernel_rfl) ?_ _
          have hx9 := setRow_heap wv X _ #[.int .i64 a0, .int .i64 a1, .int .i64 a2] _ _ hXb
          go_upto_region 18 with (fail)
          refine gen_world (S := fun v => Below wr.heap.size wr v ∧ v.heap[X]? = some (.cells #[.int .i64 a0, .int .i64 a1, .int .i64 a2] 24 (0, 0))) ⟨HEz.out _ hS3, hx9⟩ (fun u2 hu => ?_)
          obtain ⟨hb, hx⟩ := hu
          have HX := Lib.hid hx
          have HEu := Lib.hid ((hb.block _ (lt_of_block HEr.out)).trans HEr.out)
          have HCu := Lib.hid (cell_later hb HC.out.1)
          have HBu := Lib.hid (Hb.out.trans (hb.mono Hb.out.size))
          clear hS hS3 hXb hXl hx9 hb hx HSz HEz hBl HC HEr
          obtain ⟨B2, hBe⟩ : ∃ B, B = u2.heap.size := ⟨_, rfl⟩
          have HSz := Lib.hid (show ∀ z, Below B2 u2 z → B2 ≤ z.heap.size from fun z hz => by rw [hBe]; exact hz.size)
          have HEz := Lib.hid (show ∀ z, Below B2 u2 z → Below u2.heap.size u2 z from fun z hz => by rw [← hBe]; exact hz)
          have hd : Below B2 u2 u2.drew := by rw [hBe]; exact (Below.refl u2.heap.size u2).drew
          clear hBe
          refine wp_region_held_drew (S := fun z => Below B2 u2 z) (by kernel_rfl) hd (fun hS => ?_)
          clear hd
          refine wpAnyH_take (i := 0) (oi := ⟨_, _, _, _, _, _⟩) (v := ?v60) rfl (by kernel_rfl) (by kernel_rfl) (by kernel_rfl) (fun _ _ _ h => h) ?y60 hS ?_
          case y60 => first | (refine Or.inr ⟨by rfl, ?_⟩; with_reducible rfl) | (refine Or.inl ⟨by rfl, ?_⟩; intro wS hSw; have e0 := cell_later (HEz.out _ hSw) HCu.out; obtain ⟨x0, x1, x2, -⟩ := three_box (((HEz.out _ hSw).block _ (lt_of_block HX.out)).trans HX.out); go_simp; try with_reducible rfl)
          simp only [Act.put, List.setIfInBounds_toArray, List.set_cons_zero, List.set_cons_succ]
          refine wpAnyH_take (i := 1) (oi := ⟨_, _, _, _, _, _⟩) (v := ?v61) rfl (by kernel_rfl) (by kernel_rfl) (by kernel_rfl) (fun _ _ _ h => h) ?y61 hS ?_
          case y61 => first | (refine Or.inr ⟨by rfl, ?_⟩; with_reducible rfl) | (refine Or.inl ⟨by rfl, ?_⟩; intro wS hSw; have e0 := cell_later (HEz.out _ hSw) HCu.out; obtain ⟨x0, x1, x2, -⟩ := three_box (((HEz.out _ hSw).block _ (lt_of_block HX.out)).trans HX.out); go_simp; try with_reducible rfl)
          simp only [Act.put, List.setIfInBounds_toArray, List.set_cons_zero, List.set_cons_succ]
          refine wpAnyH_take (i := 2) (oi := ⟨_, _, _, _, _, _⟩) (v := ?v62) rfl (by kernel_rfl) (by kernel_rfl) (by kernel_rfl) (fun _ _ _ h => h) ?y62 hS ?_
          case y62 => first | (refine Or.inr ⟨by rfl, ?_⟩; with_reducible rfl) | (refine Or.inl ⟨by rfl, ?_⟩; intro wS hSw; have e0 := cell_later (HEz.out _ hSw) HCu.out; obtain ⟨x0, x1, x2, -⟩ := three_box (((HEz.out _ hSw).block _ (lt_of_block HX.out)).trans HX.out); go_simp; try with_reducible rfl)
          simp only [Act.put, List.setIfInBounds_toArray, List.set_cons_zero, List.set_cons_succ]
          refine wpAnyH_take (i := 3) (oi := ⟨_, _, _, _, _, _⟩) (v := ?v63) rfl (by kernel_rfl) (by kernel_rfl) (by kernel_rfl) (fun _ _ _ h => h) ?y63 hS ?_
          case y63 => first | (refine Or.inr ⟨by rfl, ?_⟩; with_reducible rfl) | (refine Or.inl ⟨by rfl, ?_⟩; intro wS hSw; have e0 := cell_later (HEz.out _ hSw) HCu.out; obtain ⟨x0, x1, x2, -⟩ := three_box (((HEz.out _ hSw).block _ (lt_of_block HX.out)).trans HX.out); go_simp; try with_reducible rfl)
          simp only [Act.put, List.setIfInBounds_toArray, List.set_cons_zero, List.set_cons_succ]
          refine wpAnyH_take (i := 4) (oi := ⟨_, _, _, _, _, _⟩) (v := ?v64) rfl (by kernel_rfl) (by kernel_rfl) (by kernel_rfl) (fun _ _ _ h => h) ?y64 hS ?_
          case y64 => first | (refine Or.inr ⟨by rfl, ?_⟩; with_reducible rfl) | (refine Or.inl ⟨by rfl, ?_⟩; intro wS hSw; have e0 := cell_later (HEz.out _ hSw) HCu.out; obtain ⟨x0, x1, x2, -⟩ := three_box (((HEz.out _ hSw).block _ (lt_of_block HX.out)).trans HX.out); go_simp; try with_reducible rfl)
          simp only [Act.put, List.setIfInBounds_toArray, List.set_cons_zero, List.set_cons_succ]
          refine wpAnyH_take (i := 5) (oi := ⟨_, _, _, _, _, _⟩) (v := ?v65) rfl (by kernel_rfl) (by kernel_rfl) (by kernel_rfl) (fun _ _ _ h => h) ?y65 hS ?_
          case y65 => first | (refine Or.inr ⟨by rfl, ?_⟩; with_reducible rfl) | (refine Or.inl ⟨by rfl, ?_⟩; intro wS hSw; have e0 := cell_later (HEz.out _ hSw) HCu.out; obtain ⟨x0, x1, x2, -⟩ := three_box (((HEz.out _ hSw).block _ (lt_of_block HX.out)).trans HX.out); go_simp; try with_reducible rfl)
          simp only [Act.put, List.setIfInBounds_toArray, List.set_cons_zero, List.set_cons_succ]
          refine wpAnyH_take (i := 6) (oi := ⟨_, _, _, _, _, _⟩) (v := ?v66) rfl (by kernel_rfl) (by kernel_rfl) (by kernel_rfl) (fun _ _ _ h => h) ?y66 hS ?_
          case y66 => first | (refine Or.inr ⟨by rfl, ?_⟩; with_reducible rfl) | (refine Or.inl ⟨by rfl, ?_⟩; intro wS hSw; have e0 := cell_later (HEz.out _ hSw) HCu.out; obtain ⟨x0, x1, x2, -⟩ := three_box (((HEz.out _ hSw).block _ (lt_of_block HX.out)).trans HX.out); go_simp; try with_reducible rfl)
          simp only [Act.put, List.setIfInBounds_toArray, List.set_cons_zero, List.set_cons_succ]
          refine wpAnyH_take (i := 7) (oi := ⟨_, _, _, _, _, _⟩) (v := ?v67) rfl (by kernel_rfl) (by kernel_rfl) (by kernel_rfl) (fun _ _ _ h => h) ?y67 hS ?_
          case y67 => first | (refine Or.inr ⟨by rfl, ?_⟩; with_reducible rfl) | (refine Or.inl ⟨by rfl, ?_⟩; intro wS hSw; have e0 := cell_later (HEz.out _ hSw) HCu.out; obtain ⟨x0, x1, x2, -⟩ := three_box (((HEz.out _ hSw).block _ (lt_of_block HX.out)).trans HX.out); go_simp; try with_reducible rfl)
          simp only [Act.put, List.setIfInBounds_toArray, List.set_cons_zero, List.set_cons_succ]
          refine wpAnyH_take (i := 8) (oi := ⟨_, _, _, _, _, _⟩) (v := ?v68) rfl (by kernel_rfl) (by kernel_rfl) (by kernel_rfl) (fun _ _ _ h => h) ?y68 hS ?_
          case y68 => first | (refine Or.inr ⟨by rfl, ?_⟩; with_reducible rfl) | (refine Or.inl ⟨by rfl, ?_⟩; intro wS hSw; have e0 := cell_later (HEz.out _ hSw) HCu.out; obtain ⟨x0, x1, x2, -⟩ := three_box (((HEz.out _ hSw).block _ (lt_of_block HX.out)).trans HX.out); go_simp; try with_reducible rfl)
          simp only [Act.put, List.setIfInBounds_toArray, List.set_cons_zero, List.set_cons_succ]
          refine wpAnyH_take (i := 9) (oi := ⟨_, _, _, _, _, _⟩) (v := ?v69) rfl (by kernel_rfl) (by kernel_rfl) (by kernel_rfl) (fun _ _ _ h => h) ?y69 hS ?_
          case y69 => first | (refine Or.inr ⟨by rfl, ?_⟩; with_reducible rfl) | (refine Or.inl ⟨by rfl, ?_⟩; intro wS hSw; have e0 := cell_later (HEz.out _ hSw) HCu.out; obtain ⟨x0, x1, x2, -⟩ := three_box (((HEz.out _ hSw).block _ (lt_of_block HX.out)).trans HX.out); go_simp; try with_reducible rfl)
          simp only [Act.put, List.setIfInBounds_toArray, List.set_cons_zero, List.set_cons_succ]
          refine wpAnyH_take (i := 12) (oi := ⟨_, _, _, _, _, _⟩) (v := ?v70) rfl (by kernel_rfl) (by kernel_rfl) (by kernel_rfl) (fun _ _ _ h => h) ?y70 hS ?_
          case y70 => first | (refine Or.inr ⟨by rfl, ?_⟩; with_reducible rfl) | (refine Or.inl ⟨by rfl, ?_⟩; intro wS hSw; have e0 := cell_later (HEz.out _ hSw) HCu.out; obtain ⟨x0, x1, x2, -⟩ := three_box (((HEz.out _ hSw).block _ (lt_of_block HX.out)).trans HX.out); go_simp; try with_reducible rfl)
          simp only [Act.put, List.setIfInBounds_toArray, List.set_cons_zero, List.set_cons_succ]
          refine wpAnyH_ready (rs := [10]) (by kernel_rfl) (by simp) ?_
          refine AllReadyH.cons (o := ⟨_, _, _, _, _, _⟩) rfl (fun K hK => ?_) AllReadyH.nil
          go_simp
          refine hK.out _ _ (hS.alloc (HSz.out _ hS) _) (fun hSd => ?_)
          clear hSd hK K
          try simp only [Act.put, List.setIfInBounds_toArray, List.set_cons_zero, List.set_cons_succ]
          obtain ⟨gT, hgT⟩ : ∃ X, X = u2.heap.size := ⟨_, rfl⟩
          refine gen_anyH (S2 := fun z => Below B2 u2 z ∧ z.heap[gT]? = some (.cells #[.int .i64 3, .int .i64 0, .int .i64 0, .int .i64 0, .int .i64 0] 38 (0, 0))) ⟨hS.alloc (HSz.out _ hS) _, by rw [hgT]; exact heap_alloc_new _ _⟩ (fun wv hu => ?_)
          clear hS
          rw [← hgT]
          clear hgT
          obtain ⟨hS, hT⟩ := hu
          refine wpAnyH_take (i := 11) (oi := ⟨_, _, _, _, _, _⟩) (v := ?v71) rfl (by kernel_rfl) (by kernel_rfl) (by kernel_rfl) (fun _ _ _ h => h) ?y71 hS ?_
          case y71 => first | (refine Or.inr ⟨by rfl, ?_⟩; with_reducible rfl) | (refine Or.inl ⟨by rfl, ?_⟩; intro wS hSw; go_simp; try with_reducible rfl)
          simp only [Act.put, List.setIfInBounds_toArray, List.set_cons_zero, List.set_cons_succ]
          refine wpAnyH_take (i := 13) (oi := ⟨_, _, _, _, _, _⟩) (v := ?v72) rfl (by kernel_rfl) (by kernel_rfl) (by kernel_rfl) (fun _ _ _ h => h) ?y72 hS ?_
          case y72 => first | (refine Or.inr ⟨by rfl, ?_⟩; with_reducible rfl) | (refine Or.inl ⟨by rfl, ?_⟩; intro wS hSw; go_simp; try with_reducible rfl)
          simp only [Act.put, List.setIfInBounds_toArray, List.set_cons_zero, List.set_cons_succ]
          refine wpAnyH_take (i := 14) (oi := ⟨_, _, _, _, _, _⟩) (v := ?v73) rfl (by kernel_rfl) (by kernel_rfl) (by kernel_rfl) (fun _ _ _ h => h) ?y73 hS ?_
          case y73 => first | (refine Or.inr ⟨by rfl, ?_⟩; with_reducible rfl) | (refine Or.inl ⟨by rfl, ?_⟩; intro wS hSw; go_simp; try with_reducible rfl)
          simp only [Act.put, List.setIfInBounds_toArray, List.set_cons_zero, List.set_cons_succ]
          refine wpAnyH_ready (rs := [15]) (by kernel_rfl) (by simp) ?_
          refine AllReadyH.cons (o := ⟨_, _, _, _, _, _⟩) rfl (fun K hK => ?_) AllReadyH.nil
          go_simp
          refine hK.out _ _ (hS.alloc (HSz.out _ hS) _) (fun hSd => ?_)
          clear hSd hK K
          try simp only [Act.put, List.setIfInBounds_toArray, List.set_cons_zero, List.set_cons_succ]
          obtain ⟨gD, hgD⟩ : ∃ X, X = wv.heap.size := ⟨_, rfl⟩
          refine gen_anyH (S2 := fun z => Below B2 u2 z ∧ z.heap[gT]? = some (.cells #[.int .i64 3, .int .i64 0, .int .i64 0, .int .i64 0, .int .i64 0] 38 (0, 0)) ∧ z.heap[gD]? = some (.cells #[.int .i64 0, .int .i64 a0, .int .i64 a1, .int .i64 a2, .bool false, .int .i64 0, .int .i64 0, .slice none 0 0, .slice none 0 0, .int .i64 2, .int .i64 a0, .int .i64 a1, .int .i64 a2, .bool false, .int .i64 0, .int .i64 0, .slice none 0 0, .slice none 0 0, .int .i64 0, .int .i64 a0, .int .i64 a1, .int .i64 a2, .bool false, .int .i64 0, .int .i64 0, .slice (some ⟨gT, 0, none⟩) 1 1, .slice (some ⟨gE, 0, none⟩) 4 4] 33 (0, 0))) ⟨hS.alloc (HSz.out _ hS) _, (heap_alloc_old _ _ (lt_of_block hT)).trans hT, by rw [hgD]; exact heap_alloc_new _ _⟩ (fun wx hu => ?_)
          clear hS hT
          rw [← hgD]
          clear hgD
          obtain ⟨hS, hT, hD⟩ := hu
          refine wpAnyH_ready (rs := [16]) (by kernel_rfl) (by simp) ?_
          refine AllReadyH.cons (o := ⟨_, _, _, _, _, _⟩) rfl (fun K hK => ?_) AllReadyH.nil
          have hE := ((HEz.out _ hS).block _ (lt_of_block HEu.out)).trans HEu.out
          have hds : DsAt wx (.slice (some ⟨gD, 0, none⟩) 3 3) [dd 0 ⟨a0, a1, a2⟩ zeroX, dd 2 ⟨a0, a1, a2⟩ zeroX, dd 0 ⟨a0, a1, a2⟩ ⟨false, 0, 0, [⟨3, 0, 0, 0, 0⟩], [-9223372036854775808, -1, 0, 9223372036854775807], .slice (some ⟨gT, 0, none⟩) 1 1, .slice (some ⟨gE, 0, none⟩) 4 4⟩] := ends_deeds HKo.out hT hE hD
          go_simp
          refine (HMd.out a0 _ _ wx hds).mono ?_
          rintro e w6 ⟨rfl, hb⟩
          go_wp2_with fail
          have hS1 := hS.trans (hb.mono (HSz.out _ hS))
          refine hK.out _ _ hS1 (fun hSd => ?_)
          clear hSd hK K hS hb hds hE hT hD
          try simp only [Act.put, List.setIfInBounds_toArray, List.set_cons_zero, List.set_cons_succ]
          have hS := hS1
          clear hS1
          refine wpAnyH_take (i := 17) (oi := ⟨_, _, _, _, _, _⟩) (v := ?v74) rfl (by kernel_rfl) (by kernel_rfl) (by kernel_rfl) (fun _ _ _ h => h) ?y74 hS ?_
          case y74 => first | (refine Or.inr ⟨by rfl, ?_⟩; with_reducible rfl) | (refine Or.inl ⟨by rfl, ?_⟩; intro wS hSw; go_simp; try with_reducible rfl)
          simp only [Act.put, List.setIfInBounds_toArray, List.set_cons_zero, List.set_cons_succ]
          refine wpAnyH_done (by kernel_rfl) ?_ _
          have HS := Lib.hid (HBu.out.trans ((HEz.out _ hS).mono HBu.out.size))
          clear hS
          go_wp2
          go_roundw
          case rel => exact ⟨k + 1, by omega, by go_num, HS⟩
          case measure => simp [intOf]; omega
        · have hlt2 : ¬ (k : Int) < 4 := by omega
          go_wp2_with fail
          refine (HNo.out wr).mono ?_
          rintro e w2 ⟨rfl, hb2⟩
          go_wp2_with fail
          refine (HAw.out w2).mono ?_
          rintro e w3 ⟨rfl, hb3⟩
          have HZ := Lib.hid (HB.out.trans ((Hb.out.trans ((hb2.trans (hb3.mono hb2.size)).mono Hb.out.size)).mono HB.out.size))
          clear hb2 hb3
          go_wp2
          go_ret
          exact ⟨rfl, HZ.out⟩

end Go.Proofs.YtpchjpmkkiopiaaGreat
