import Derived.Test.YtpchjpmkkiopiaaGreatMeMm
namespace Go.Proofs.YtpchjpmkkiopiaaGreat
open Go.RowKit Go.Lib

theorem ky_eql0 (a b c d e f : Int) (w : World) : (binOp .eql 24 (.agg #[.int .i64 a, .int .i64 b, .int .i64 c]) (.agg #[.int .i64 d, .int .i64 e, .int .i64 f])).run Tryz.prog w = .ok (.bool (a == d && b == e && c == f)) w := by
  by_cases h1 : a = d
  · by_cases h2 : b = e
    · by_cases h3 : c = f
      · subst h1; subst h2; subst h3
        go_simp
      · have h4 : (c == f) = false := by simpa using h3
        subst h1; subst h2
        go_simp
    · have h4 : (b == e) = false := by simpa using h2
      subst h1
      go_simp
  · have h4 : (a == d) = false := by simpa using h1
    go_simp
theorem ky_eql (p q : Ky) (w : World) : (binOp .eql 24 (.agg #[.int .i64 p.rule, .int .i64 p.level, .int .i64 p.place]) (.agg #[.int .i64 q.rule, .int .i64 q.level, .int .i64 q.place])).run Tryz.prog w = .ok (.bool (decide (p = q))) w := by
  obtain ⟨a, b, c⟩ := p
  obtain ⟨d, e, f⟩ := q
  have hd : decide ((⟨a, b, c⟩ : Ky) = ⟨d, e, f⟩) = (a == d && b == e && c == f) := by
    rw [Bool.eq_iff_iff]; simp [and_assoc]
  rw [hd]
  exact ky_eql0 a b c d e f w
theorem ky_neq (p q : Ky) (w : World) : (binOp .neq 24 (.agg #[.int .i64 p.rule, .int .i64 p.level, .int .i64 p.place]) (.agg #[.int .i64 q.rule, .int .i64 q.level, .int .i64 q.place])).run Tryz.prog w = .ok (.bool (!decide (p = q))) w := by
  have h := ky_eql p q w
  simp only [binOp, Sem.run_bind] at h ⊢
  revert h
  cases (Op.equal 24 (.agg #[.int .i64 p.rule, .int .i64 p.level, .int .i64 p.place]) (.agg #[.int .i64 q.rule, .int .i64 q.level, .int .i64 q.place])).run Tryz.prog w with
  | ok b w' => simp [Result.andThen]
  | halt x w' => simp [Result.andThen]
/-- an entry with an end. -/
def someX (n : Int) : Ent := ⟨true, n, 0, [], [], .slice none 0 0, .slice none 0 0⟩
set_option maxHeartbeats 400000 in
theorem some_any (n : Int) (w : World) : Calls Tryz.prog 4 #[.int .i64 n] w fun e w' => e = .returned (entv (someX n)) ∧ Below w.heap.size w w' := by
  go_enter Tryz.func4, Tryz.ntmps4
  go_wp2
  obtain ⟨hb, hx⟩ := one_new w (.cells #[.bool true, .int .i64 n, .int .i64 0, .slice none 0 0, .slice none 0 0] 30 (0, 0))
  obtain ⟨⟨q0, q1, q2, q3, q4⟩, -⟩ := five_box hx
  exact bodyPost_ret (v := .agg #[.bool true, .int .i64 n, .int .i64 0, .slice none 0 0, .slice none 0 0]) (by simp [results, Tryz.f4, go_sem, q0, q1, q2, q3, q4]) rfl ⟨rfl, hb⟩
theorem nil_tw (w : World) : TwOwn 0 w (.slice none 0 0) [] := World.ownsRow_nil _ _ _ _
theorem nil_iv (w : World) : IvOwn 0 w (.slice none 0 0) [] := World.ownsRow_nil _ _ _ _
theorem ky_small {a b c : Int} (ha : -1000000 ≤ a ∧ a ≤ 1000000) (hb : -1000000 ≤ b ∧ b ≤ 1000000) (hc : -1000000 ≤ c ∧ c ≤ 1000000) : kyOk ⟨a, b, c⟩ := ⟨w64_small ha.1 ha.2, w64_small hb.1 hb.2, w64_small hc.1 hc.2⟩
theorem aw_first {n1 n2 : Int} {e1 e2 : Ent} {r : Rec} (h : FirstK [(⟨⟨1, 0, 5⟩, n1, e1⟩ : Rec), ⟨⟨2, 0, 3⟩, n2, e2⟩] r) : r = ⟨⟨2, 0, 3⟩, n2, e2⟩ := by
  obtain ⟨h1, h2⟩ := h
  rcases List.mem_cons.1 h1 with rfl | h1
  · have := h2 ⟨⟨2, 0, 3⟩, n2, e2⟩ (by simp)
    simp at this
  · simpa using h1
set_option maxRecDepth 100000 in
set_option maxHeartbeats 8000000 in
theorem awake_any (w : World) : Calls Tryz.prog 7 #[] w fun e w' => e = .returned (.bool true) ∧ Below w.heap.size w w' := by
  have HKe := Lib.hid ky_eql
  go_enter Tryz.func7, Tryz.ntmps7
  go_wp2_with fail
  refine (mNew_any (base := w.heap.size) 2 w (by omega) (Nat.le_refl _) (Nat.zero_le _)).mono ?_
  rintro e w1 ⟨p, q, nm, km, em, rfl, hm, hb⟩
  have HM := Lib.hid hm
  have HB := Lib.hid hb
  clear hm hb
  go_wp2_with fail
  refine (some_any 1 w1).mono ?_
  rintro e w2 ⟨rfl, hb⟩
  replace HM := Lib.hid (HM.out.later hb)
  replace HB := Lib.hid (HB.out.trans (hb.mono HB.out.size))
  clear hb
  go_wp2_with fail
  refine (mPutN_any (k := ⟨1, 0, 5⟩) (someX 1) w2 HM.out (ky_small (by omega) (by omega) (by omega)) (nil_tw w2) (nil_iv w2) (by simp [someX]) (by simp [someX]) (by omega) rfl (by omega) (by simp)).mono ?_
  rintro e w3 ⟨rfl, tv, kv, hm, hk⟩
  obtain ⟨e1, he1⟩ : ∃ e : Ent, e = ⟨(someX 1).is, (someX 1).en, (someX 1).far, (someX 1).tree, (someX 1).tou, tv, kv⟩ := ⟨_, rfl⟩
  rw [← he1] at hm
  replace HM := Lib.hid (show MeIs w.heap.size w3 p q nm km em 1 2 1 [⟨⟨1, 0, 5⟩, 0, e1⟩] from hm)
  replace HB := Lib.hid (HB.out.trans (hk.below HB.out.size))
  clear hm hk he1
  go_wp2_with fail
  refine (some_any 2 w3).mono ?_
  rintro e w4 ⟨rfl, hb⟩
  replace HM := Lib.hid (HM.out.later hb)
  replace HB := Lib.hid (HB.out.trans (hb.mono HB.out.size))
  clear hb
  go_wp2_with fail
  refine (mPutN_any (k := ⟨2, 0, 3⟩) (someX 2) w4 HM.out (ky_small (by omega) (by omega) (by omega)) (nil_tw w4) (nil_iv w4) (by simp [someX]) (by simp [someX]) (by omega) rfl (by omega) (by simp)).mono ?_
  rintro e w5 ⟨rfl, tv, kv, hm, hk⟩
  obtain ⟨e2, he2⟩ : ∃ e : Ent, e = ⟨(someX 2).is, (someX 2).en, (someX 2).far, (someX 2).tree, (someX 2).tou, tv, kv⟩ := ⟨_, rfl⟩
  rw [← he2] at hm
  replace HM := Lib.hid (show MeIs w.heap.size w5 p q nm km em 2 2 2 [⟨⟨1, 0, 5⟩, 0, e1⟩, ⟨⟨2, 0, 3⟩, 1, e2⟩] from hm)
  replace HB := Lib.hid (HB.out.trans (hk.below HB.out.size))
  clear hm hk he2
  go_wp2_with fail
  refine (some_any 3 w5).mono ?_
  rintro e w6 ⟨rfl, hb⟩
  replace HM := Lib.hid (HM.out.later hb)
  replace HB := Lib.hid (HB.out.trans (hb.mono HB.out.size))
  clear hb
  go_wp2_with fail
  refine (mPutF_any (k := ⟨3, 0, 5⟩) (someX 3) w6 HM.out (ky_small (by omega) (by omega) (by omega)) (nil_tw w6) (nil_iv w6) (by simp [someX]) (by simp [someX]) (by omega) rfl (by omega) (by simp)).mono ?_
  rintro e w7 ⟨r, g, c, hf, rfl, hg, tv, kv, hm, hk⟩
  obtain rfl := aw_first hf
  obtain ⟨e3, he3⟩ : ∃ e : Ent, e = ⟨(someX 3).is, (someX 3).en, (someX 3).far, (someX 3).tree, (someX 3).tou, tv, kv⟩ := ⟨_, rfl⟩
  rw [← he3] at hm
  replace HM := Lib.hid (show MeIs w.heap.size w7 p q nm km em 3 2 2 [⟨⟨1, 0, 5⟩, 0, e1⟩, ⟨⟨3, 0, 5⟩, 2, e3⟩] from hm)
  have HG := Lib.hid hg
  replace HB := Lib.hid (HB.out.trans (hk.below HB.out.size))
  clear hm hk he3 hf hg
  go_wp2_with fail
  refine (some_any 4 w7).mono ?_
  rintro e w8 ⟨rfl, hb⟩
  replace HM := Lib.hid (HM.out.later hb)
  replace HG := Lib.hid (row_later HG.out hb)
  replace HB := Lib.hid (HB.out.trans (hb.mono HB.out.size))
  clear hb
  go_wp2_with fail
  refine (mPutO_any (k := ⟨1, 0, 5⟩) (someX 4) w8 HM.out (ky_small (by omega) (by omega) (by omega)) (nil_tw w8) (nil_iv w8) (by simp [someX]) (by simp [someX]) (by omega) rfl).mono ?_
  rintro e w9 ⟨rfl, tv, kv, hm, hk⟩
  obtain ⟨e4, he4⟩ : ∃ e : Ent, e = ⟨(someX 4).is, (someX 4).en, (someX 4).far, (someX 4).tree, (someX 4).tou, tv, kv⟩ := ⟨_, rfl⟩
  rw [← he4] at hm
  replace HM := Lib.hid (show MeIs w.heap.size w9 p q nm km em 3 2 2 [⟨⟨1, 0, 5⟩, 0, e4⟩, ⟨⟨3, 0, 5⟩, 2, e3⟩] from hm)
  have HE4 := Lib.hid (show e4.is = true ∧ e4.en = 4 ∧ e4.far = 0 ∧ e4.tree = [] ∧ e4.tou = [] from by rw [he4]; exact ⟨rfl, rfl, rfl, rfl, rfl⟩)
  replace HG := Lib.hid (hk.row HG.out (by decide))
  replace HB := Lib.hid (HB.out.trans (hk.below HB.out.size))
  clear hm hk he4
  go_wp2_with fail
  refine (mGet_any (k := ⟨1, 0, 5⟩) (r := ⟨⟨1, 0, 5⟩, 0, e4⟩) w9 HM.out rfl (by rw [HE4.out.2.2.2.1]; simp) (by rw [HE4.out.2.2.2.2]; simp)).mono ?_
  rintro e w10 ⟨tv, kv, rfl, ho1, ho2, hb⟩
  simp only [HE4.out.1, HE4.out.2.1, HE4.out.2.2.1, HE4.out.2.2.2.1, HE4.out.2.2.2.2] at ho1 ho2 ⊢
  obtain ⟨a1, c1, rfl⟩ := own_val ho1
  obtain ⟨a2, c2, rfl⟩ := own_val ho2
  replace HM := Lib.hid (HM.out.later hb)
  replace HG := Lib.hid (row_later HG.out hb)
  replace HB := Lib.hid (HB.out.trans (hb.mono HB.out.size))
  clear hb ho1 ho2
  have hke := HKe.out ⟨2, 0, 3⟩ ⟨2, 0, 3⟩
  go_upto_region 9 with (fail)
  refine gen_world (S := fun v => Below w10.heap.size w10 v ∧ v.heap[w10.heap.size]? = some (.cells #[.bool true, .int .i64 4, .int .i64 0, .slice a1 0 c1, .slice a2 0 c2] 30 (0, 0))) (one_new w10 _) (fun v hv => ?_)
  obtain ⟨hbv, hxv⟩ := hv
  replace HM := Lib.hid (HM.out.later hbv)
  replace HG := Lib.hid (row_later HG.out hbv)
  replace HB := Lib.hid (HB.out.trans (hbv.mono HB.out.size))
  obtain ⟨⟨x0, x1, x2, x3, x4⟩, -⟩ := five_box hxv
  obtain ⟨g0, g1, g2⟩ := key_row (S := [⟨2, 0, 3⟩]) HG.out 0 (by simp) rfl
  simp only [List.getElem_cons_zero, Nat.zero_mul, Nat.zero_add] at g0 g1 g2
  clear hbv hxv
  go_wp2_with fail
  refine (mLen_any v HM.out).mono ?_
  rintro e w11 ⟨rfl, rfl⟩
  go_wp2
  go_ret
  exact ⟨rfl, HB.out⟩
end Go.Proofs.YtpchjpmkkiopiaaGreat
