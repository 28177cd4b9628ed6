/-
  A pair grows.
-/
import Derived.Test.YtebgleehmgmfbaaGAll
namespace Go.Proofs.Ytebgleehmgmfbaa
open Go.RowKit Go.Lib

/-- what is told of a growth. -/
structure GrR where
  is : Bool
  en : Int
  far : Int
  tree : List Tw
  n : Nat
  err : Int
def grR (l : List An) (T : Nat) : GrR := if (atA l T).err = 0 then ⟨decide (0 < T), lastEn l T, farN l (T + 1), lastT l T, T + 1, 0⟩ else ⟨false, 0, 0, [], 0, (atA l T).err⟩

theorem equalIn_closure {P : Program} (w : World) (d : Nat) (t : TypeId) (x : Fn) (b fr : Array Value) {ps rs : Array TypeId} {v : Bool} (h : P.underlying t = some (.func ps rs v)) : (Op.equalIn (d + 1) t (.func x b fr) .nilFunc).run P w = .ok false w := by
  simp [Op.equalIn, run_underlying h]
theorem equalIn_nilFunc {P : Program} (w : World) (d : Nat) (t : TypeId) {ps rs : Array TypeId} {v : Bool} (h : P.underlying t = some (.func ps rs v)) : (Op.equalIn (d + 1) t .nilFunc .nilFunc).run P w = .ok true w := by
  simp [Op.equalIn, run_underlying h]
theorem run_eql_closure {P : Program} (w : World) (t : TypeId) (x : Fn) (b fr : Array Value) (h : ∃ ps rs v, P.underlying t = some (.func ps rs v)) : (binOp .eql t (.func x b fr) .nilFunc).run P w = .ok (.bool false) w := by
  obtain ⟨ps, rs, v, h⟩ := h
  simp only [binOp]
  simp [Op.equal, Op.maxDepth, equalIn_closure w 9999 t x b fr h]
theorem run_eql_nilFunc {P : Program} (w : World) (t : TypeId) (h : ∃ ps rs v, P.underlying t = some (.func ps rs v)) : (binOp .eql t .nilFunc .nilFunc).run P w = .ok (.bool true) w := by
  obtain ⟨ps, rs, v, h⟩ := h
  simp only [binOp]
  simp [Op.equal, Op.maxDepth, equalIn_nilFunc w 9999 t h]
def isFn : Option TypeDesc → Bool
  | some (.func _ _ _) => true
  | _ => false
theorem isFn_of {o : Option TypeDesc} (h : isFn o = true) : ∃ ps rs v, o = some (.func ps rs v) := by
  unfold isFn at h
  split at h
  · exact ⟨_, _, _, rfl⟩
  · simp at h
theorem bodyType : ∃ ps rs v, Try.prog.underlying 42 = some (.func ps rs v) := isFn_of (by kernel_rfl)

set_option maxRecDepth 100000 in
set_option maxHeartbeats 4000000 in
theorem grow_any [Watch] {base s m : Nat} {sv : Value} {F : Live} {p : Pr} {sb : Nat} {lev : Int} {av rv lv : Value} {l : List An} {T : Nat} (w : World)
    (hs : StIs base w s m sv F) (hp : ∀ x ∈ F, x.1 ≠ p) (hw : W64 p) (hF : F.length < 100000) (hc : ScIs base w sb s p lev av rv lv [] [] true) (ha : AnsS base w av l) (hl : l.length < 90000) (ht : ∀ a ∈ l, a.tree.length ≤ 1000000) (hT : Stops l T) :
    Calls Try.prog 10 #[.pointer (some ⟨s, 0, none⟩), .int .i64 p.1, .int .i64 p.2, .int .i64 lev, bodyF sb] w fun e w' => ∃ v rv rl gl sv',
      e = .returned (.tuple #[.agg #[.bool (grR l T).is, .int .i64 (grR l T).en, .int .i64 (grR l T).far, v], .int .i64 (grR l T).n, .int .i64 (grR l T).err]) ∧ StIs base w' s m sv' F ∧ ScIs base w' sb s p lev av rv rl (rdsA l lev (T + 1)) gl true ∧ gl.map (·.2) = treesA l (T + 1) ∧ TwIn w' v (grR l T).tree ∧ Off v gl ∧ KeepT base TT true w w' := by
  have hbs : base ≤ w.heap.size := Nat.le_of_lt (Nat.lt_of_le_of_lt hs.bs (lt_of_block hs.blk))
  have Hs := Lib.hid hs
  have Hp := Lib.hid hp
  have Hw := Lib.hid hw
  have HF := Lib.hid hF
  have Hc := Lib.hid hc
  have Ha := Lib.hid ha
  have Hl := Lib.hid hl
  have Ht := Lib.hid ht
  have HT := Lib.hid hT
  have Hbs := Lib.hid hbs
  clear hs hp hw hF hc ha hl ht hT hbs
  unfold bodyF
  have qF : ∀ (w : World) (x : Fn) (b fr : Array Value), (binOp .eql 42 (.func x b fr) .nilFunc).run Try.prog w = .ok (.bool false) w := fun w x b fr => run_eql_closure w _ x b fr bodyType
  go_enter Try.func10, Try.ntmps10
  go_upto_region 1 with (fail)
  refine gen_world (S := fun u => Below w.heap.size w u ∧ u.heap[w.heap.size]? = some (.cells #[.bool false, .int .i64 0, .int .i64 0, .slice none 0 0] 38 (0, 0))) (one_new w _) (fun u hu => ?_)
  obtain ⟨hb, h1⟩ := hu
  have Hb := Lib.hid hb
  have H1 := Lib.hid h1
  clear hb h1
  go_wp2_with fail
  refine (st_begin u (Hs.out.later Hb.out) Hp.out Hw.out HF.out).mono ?_
  rintro e w2 ⟨rfl, ⟨sv2, hs2⟩, hk2⟩
  have HS2 := Lib.hid hs2
  have HK2 := Lib.hid hk2
  have H12 := Lib.hid (hk2.cells H1.out (by decide))
  have HC2 := Lib.hid ((Hc.out.later Hb.out).keepT hk2 (by decide) (by decide) (by decide) (by decide))
  have hk : KeepT base TT true w w2 := KeepT.trans (KeepT.ofBelow Hb.out) (KeepT.mono hk2 (by decide) (fun h => h))
  have HA2 := Lib.hid (Ha.out.keep hk)
  have HK := Lib.hid hk
  clear hs2 hk2 hk H1 HK2
  go_upto_region 7 with (fail)
  refine gen_world (S := fun u => Below w2.heap.size w2 u ∧ u.heap[w2.heap.size]? = some (.cells #[.pointer (some ⟨s, 0, none⟩), .int .i64 lev, .func (.func 11) #[.pointer (some ⟨sb, 0, none⟩)] #[], .int .i64 0, .int .i64 0] 77 (0, 0))) (one_new w2 _) (fun u3 hu => ?_)
  obtain ⟨hb3, hg3⟩ := hu
  have hbg : base ≤ w2.heap.size := Nat.le_trans Hbs.out (KeepT.below HK.out Hbs.out).size
  have hG : u3.heap[w2.heap.size]? = some (.cells #[.pointer (some ⟨s, 0, none⟩), .int .i64 lev, bodyF sb, .int .i64 0, .int .i64 0] 77 (0, 0)) := hg3
  have hA := all_any u3 (HS2.out.later hb3) (HC2.out.later hb3) (HA2.out.later hb3) Hl.out Ht.out HT.out hG hbg
  have HAll := Lib.hid hA
  have HB3 := Lib.hid hb3
  have H13 := Lib.hid ((hb3.block _ (lt_of_block H12.out)).trans H12.out)
  have HK3 := Lib.hid (KeepT.trans HK.out (KeepT.ofBelow hb3) : KeepT base TT true w u3)
  have Hbg := Lib.hid hbg
  obtain ⟨G, hG⟩ : ∃ G, G = w2.heap.size := ⟨_, rfl⟩
  rw [← hG] at HAll Hbg ⊢
  clear hG hA hg3 hb3 hbg H12 HS2 HC2 HA2 HK HB3
  go_wp2_with fail
  refine HAll.out.mono ?_
  rintro e w4 ⟨v, rv4, rl4, gl, rfl, hs4, hc4, htr, hv4, hoff, hg4, hk4⟩
  obtain ⟨vf, hs4⟩ := hs4
  obtain ⟨ao, cap, rfl⟩ := hv4.1.val
  have HS4 := Lib.hid hs4
  have HC4 := Lib.hid hc4
  have Htr := Lib.hid htr
  have HV4 := Lib.hid hv4
  have Hoff := Lib.hid hoff
  have HG4 := Lib.hid hg4
  have H14 := Lib.hid (hk4.cells H13.out (by decide))
  have HK4 := Lib.hid (KeepT.trans HK3.out (KeepT.mono hk4 (by decide) (fun h => h)) : KeepT base TT true w w4)
  clear hs4 hc4 htr hv4 hoff hg4 hk4 HAll H13 HK3
  go_upto_region 8 with (fail)
  refine gen_world (S := fun u => Below w4.heap.size w4 u ∧ u.heap[w4.heap.size]? = some (.cells #[.bool (decide (0 < T)), .int .i64 (lastEn l T), .int .i64 0, .slice ao (lastT l T).length cap] 38 (0, 0))) (one_new w4 _) (fun u5 hu => ?_)
  obtain ⟨hb5, hx5⟩ := hu
  have HS5 := Lib.hid (HS4.out.later hb5)
  have HC5 := Lib.hid (HC4.out.later hb5)
  have HV5 := Lib.hid (HV4.out.later hb5)
  have H15 := Lib.hid ((hb5.block _ (lt_of_block H14.out)).trans H14.out)
  have HG5 := Lib.hid ((hb5.block _ (lt_of_block HG4.out)).trans HG4.out)
  have HX5 := Lib.hid hx5
  have HK5 := Lib.hid (KeepT.trans HK4.out (KeepT.ofBelow hb5) : KeepT base TT true w u5)
  have hn1 : w.heap.size < w4.heap.size := lt_of_block H14.out
  have HN1 := Lib.hid hn1
  obtain ⟨X, hX⟩ : ∃ X, X = w4.heap.size := ⟨_, rfl⟩
  rw [← hX] at HX5 HN1 ⊢
  clear hb5 hx5 hX hn1 HS4 HC4 HV4 H14 HG4 HK4
  go_wp2_with fail
  refine (st_End u5 HS5.out).mono ?_
  rintro e w6 ⟨rfl, ⟨sv6, hs6⟩, hk6⟩
  have HS6 := Lib.hid hs6
  have HC6 := Lib.hid (HC5.out.keepT hk6 (by decide) (by decide) (by decide) (by decide))
  have HV6 := Lib.hid (HV5.out.keepT hk6 (by decide))
  have H16 := Lib.hid (hk6.cells H15.out (by decide))
  have HG6 := Lib.hid (hk6.cells HG5.out (by decide))
  have HX6 := Lib.hid (hk6.cells HX5.out (by decide))
  have HK6 := Lib.hid (KeepT.trans HK5.out (KeepT.mono hk6 (by decide) (fun h => h)) : KeepT base TT true w w6)
  obtain ⟨r0, r1, r2, r3, k0, k1, k2, k3⟩ := four_box H16.out
  clear hs6 hk6 HS5 HC5 HV5 H15 HG5 HX5 HK5
  by_cases he : (atA l T).err = 0
  · have qe : ((atA l T).err == 0) = true := by rw [he]; rfl
    have qe2 : decide ((atA l T).err = 0) = true := by rw [he]; rfl
    have He := Lib.hid he
    obtain ⟨x0, x1, x2, x3, y0, y1, y2, y3⟩ := four_box HX6.out
    obtain ⟨g0, g1, g2, g3, g4, -⟩ := five_box HG6.out
    clear he
    go_upto_region 12 with (fail)
    have hX2 : X ≠ w.heap.size := by have := HN1.out; omega
    have hkq : Keeps (fun k => k = X) w6 (w6.setCell ⟨X, 2, none⟩ (.int .i64 (farN l (T + 1)))) := (Keeps.refl (fun k => k = X) w6).setCell (p := ⟨X, 2, none⟩) rfl _
    have hq : (w6.setCell ⟨X, 2, none⟩ (.int .i64 (farN l (T + 1)))).heap[X]? = some (.cells #[.bool (decide (0 < T)), .int .i64 (lastEn l T), .int .i64 (farN l (T + 1)), .slice ao (lastT l T).length cap] 38 (0, 0)) := block_setCell' (k := 2) HX6.out
    clear x0 x1 x2 x3 y0 y1 y2 y3 g0 g1 g2 g3 g4 r0 r1 r2 r3 k0 k1 k2 k3
    refine gen_world (S := fun u => Keeps (fun k => k = X) w6 u ∧ u.heap[X]? = some (.cells #[.bool (decide (0 < T)), .int .i64 (lastEn l T), .int .i64 (farN l (T + 1)), .slice ao (lastT l T).length cap] 38 (0, 0))) ⟨hkq, hq⟩ (fun w7 hu => ?_)
    obtain ⟨hk7, hx7⟩ := hu
    have hT7 : KeepT 0 [38] false w6 w7 := Keeps.mono hk7 fun k _ e => by subst e; exact ⟨Nat.zero_le _, by unfold Tyb; rw [HX6.out]; simp⟩
    have HS7 := Lib.hid (HS6.out.keepT hT7 (by decide) (by decide) (by decide))
    have HC7 := Lib.hid (HC6.out.keepT hT7 (by decide) (by decide) (by decide) (by decide))
    have HV7 := Lib.hid (HV6.out.keepT hT7 (by decide))
    have HK7 := Lib.hid (Keeps.set_new HK6.out hk7 (Nat.le_of_lt HN1.out))
    have hr7 := hk7.obj H16.out (Ne.symm hX2)
    obtain ⟨x0, x1, x2, x3, -⟩ := four_box hx7
    obtain ⟨r0, r1, r2, r3, k0, k1, k2, k3⟩ := four_box hr7
    have hg7 := hT7.cells HG6.out (by decide)
    obtain ⟨g0, g1, g2, g3, g4, -⟩ := five_box hg7
    have hGn : G ≠ w.heap.size := by
      intro e
      rw [e, hr7] at hg7
      simp at hg7
    have HR7 := Lib.hid hr7
    clear hk7 hx7 hT7 hr7 hg7 hX2 hkq hq HS6 HC6 HV6 HK6 HG6 HX6 H16
    go_region
    all_goals go_wp2
    all_goals
      obtain ⟨q, hq⟩ := set4 HR7.out (.bool (decide (0 < T))) (.int .i64 (lastEn l T)) (.int .i64 (farN l (T + 1))) (.slice ao (lastT l T).length cap)
      obtain ⟨q0, q1, q2, q3, -⟩ := four_box q
      have hkq : KeepT 0 [38] false w7 (World.drew _) := Keeps.drew (Keeps.mono hq fun k _ e => by subst e; exact ⟨Nat.zero_le _, by unfold Tyb; rw [HR7.out]; simp⟩)
      refine bodyPost_ret (v := .tuple #[.agg #[.bool (decide (0 < T)), .int .i64 (lastEn l T), .int .i64 (farN l (T + 1)), .slice ao (lastT l T).length cap], .int .i64 (T + 1 : Nat), .int .i64 0]) (by simp [results, Try.f10, go_sem, q0, q1, q2, q3]) rfl ?_
      have e : grR l T = ⟨decide (0 < T), lastEn l T, farN l (T + 1), lastT l T, T + 1, 0⟩ := by unfold grR; rw [if_pos He.out]
      rw [e]
      exact ⟨.slice ao (lastT l T).length cap, rv4, rl4, gl, _, rfl, HS7.out.keepT hkq (by decide) (by decide) (by decide), HC7.out.keepT hkq (by decide) (by decide) (by decide) (by decide), Htr.out, HV7.out.keepT hkq (by decide), Hoff.out, (Keeps.set_new HK7.out hq (Nat.le_refl _)).drew⟩
  · have qe : ((atA l T).err == 0) = false := by simpa using he
    have qe2 : decide ((atA l T).err = 0) = false := by simpa using he
    have He := Lib.hid he
    clear he
    go_wp2
    obtain ⟨q, hq⟩ := set4 H16.out (.bool false) (.int .i64 0) (.int .i64 0) (.slice none 0 0)
    obtain ⟨q0, q1, q2, q3, -⟩ := four_box q
    have hkq : KeepT 0 [38] false w6 _ := Keeps.mono hq fun k _ e => by subst e; exact ⟨Nat.zero_le _, by unfold Tyb; rw [H16.out]; simp⟩
    refine bodyPost_ret (v := .tuple #[.agg #[.bool false, .int .i64 0, .int .i64 0, .slice none 0 0], .int .i64 0, .int .i64 (atA l T).err]) (by simp [results, Try.f10, go_sem, q0, q1, q2, q3]) rfl ?_
    have e : grR l T = ⟨false, 0, 0, [], 0, (atA l T).err⟩ := by unfold grR; rw [if_neg He.out]
    rw [e]
    exact ⟨.slice none 0 0, rv4, rl4, gl, _, rfl, HS6.out.keepT hkq (by decide) (by decide) (by decide), HC6.out.keepT hkq (by decide) (by decide) (by decide) (by decide), Htr.out, TwIn.nil _, fun _ _ _ _ e => by simp at e, Keeps.set_new HK6.out hq (Nat.le_refl _)⟩

end Go.Proofs.Ytebgleehmgmfbaa
