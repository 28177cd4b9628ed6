/-
  A growth asks as long as it ends further on.
-/
import Derived.Test.YtebgleehmgmfbaaGp
namespace Go.Proofs.Ytebgleehmgmfbaa
open Go.RowKit Go.Lib

set_option maxHeartbeats 1000000 in
theorem tw_clone2 (v : Value) (t : List Tw) (w : World) (ht : TwIn w v t) (hl : t.length ≤ 1000000) :
    Calls Try.prog 38 #[v] w fun e w' => ∃ v', e = .returned v' ∧ TwIn w' v' t ∧ (∀ g off n cap, v' = .slice (some ⟨g, off, none⟩) n cap → w.heap.size ≤ g) ∧ Below w.heap.size w w' := by
  have HT := Lib.hid ht
  obtain ⟨ao, cap, rfl⟩ := ht.1.val
  obtain ⟨-, hlc, hcm, hnil, hnews⟩ := rows_news twc_len (by omega) ht.1
  have Hnil := Lib.hid hnil
  have Hn := Lib.hid hnews
  clear ht hnil hnews
  obtain ⟨i0, hi, hz0, hz1, hz2⟩ := info_parts Try.infoTwig
  have hfr : (w.alloc (.cells #[] 60 (0, 0))).ownsRow w.heap.size 60 5 (.slice (some ⟨w.heap.size, 0, none⟩) 0 0) 0 [] := ⟨by simp, .inr ⟨w.heap.size, 0, #[], rfl, Nat.le_refl _, heap_alloc_new _ _, Nat.le_refl _, by unfold maxLen; omega, by simp, by simp⟩⟩
  have hal : Below w.heap.size w (w.alloc (.cells #[] 60 (0, 0))) := (Below.refl _ _).alloc (Nat.le_refl _) _
  obtain ⟨-, -, -, -, hn1⟩ := rows_news twc_len (by omega) (HT.out.1.later hal)
  have HN := Lib.hid hn1
  have Hfr := Lib.hid hfr
  clear hfr hn1 Hn
  have qT : ∀ (w : World) (a : Option Addr) (n c : Nat), (binOp .eql 36 (.slice a n c) (.slice none 0 0)).run Try.prog w = .ok (.bool a.isNone) w := fun w a n c => Lib.run_eql_slice_nil w _ _ a n c 0 0 Try.underlying36
  go_enter Try.func38, Try.ntmps38
  cases ao with
  | none =>
    go_wp2
    go_ret
    obtain ⟨h1, h2⟩ := Hnil.out trivial
    have : t = [] := List.eq_nil_of_length_eq_zero h1
    subst this
    exact ⟨_, rfl, TwIn.nil _, fun _ _ _ _ e => by simp at e, Below.refl _ _⟩
  | some ad =>
    go_wp2_with (at_builtin; refine wpList_append_mine _ rfl (.tmp 5) (.tmp 6) 36 rfl w.heap.size 60 i0 (.agg #[.int .i64 0, .int .i64 0, .int .i64 0, .int .i64 0, .int .i64 0]) 5 40 Try.underlying36 hi hz0 hz1 hz2 rfl (by decide) _ 0 [] rfl Hfr.out (some ad) t.length cap (tvs t) rfl (flat_len twc_len t) Hnil.out HN.out (flat_one twc_one t) (by unfold maxLen; omega) (by omega) (by simp) ?_; intro v2 w1 hown1 hg1 hfr1; have hbel1 := hal.grown hg1 (by simp) (fun k hk => by cases hk; exact Nat.le_refl _); simp only [Nat.zero_add, List.nil_append] at hown1; have Ho := Lib.hid hown1; have Hb := Lib.hid hbel1; clear hown1 hg1 hfr1 hbel1)
    go_ret
    refine ⟨_, rfl, ⟨own_rows twc_len rfl Ho.out, fun g off n cap e hn => ?_⟩, fun g off n cap e => ?_, Hb.out⟩
    · rcases Ho.out.2 with ⟨h0, _⟩ | ⟨g', cap', cur, hv, _, hg, _⟩
      · have e : v2 = _ := e
        rw [e] at h0; simp at h0
      · have e : v2 = _ := e
        rw [e] at hv
        simp only [Value.slice.injEq, Option.some.injEq, Addr.mk.injEq] at hv
        obtain ⟨⟨rfl, _⟩, _⟩ := hv
        exact ⟨_, _, hg⟩
    · have e : v2 = _ := e
      exact (Ho.out.lt g (by rw [e]; rfl)).1

def lastEn (l : List An) (k : Nat) : Int := if k = 0 then 0 else (atA l (k - 1)).en
def lastT (l : List An) (k : Nat) : List Tw := if k = 0 then [] else (atA l (k - 1)).tree
/-- the twigs lie in none of these. -/
def Off (v : Value) (gl : List Lnt) : Prop := ∀ g off n cap, v = .slice (some ⟨g, off, none⟩) n cap → 0 < n → ∀ x ∈ gl, x.1 ≠ g
structure AllSt [Watch] (base : Nat) (w wr : World) (s m : Nat) (sv : Value) (F : Live) (p : Pr) (sb gb : Nat) (lev : Int) (av : Value) (l : List An) (R X k g : Nat) (lv rv rl v : Value) (gl : List Lnt) : Prop where
  st : ∃ v, StIs base wr s m sv (F ++ [(p, fdA l lev k v)])
  sc : ScIs base wr sb s p lev av rv rl (rdsA l lev (k + 1)) gl true
  tr : gl.map (·.2) = treesA l (k + 1)
  x : wr.heap[X]? = some (.cells #[.bool (atA l k).is, .int .i64 (atA l k).en, .int .i64 (atA l k).far, lntv (g, (atA l k).tree)] 38 (0, 0))
  mem : (g, (atA l k).tree) ∈ gl
  r : wr.heap[R]? = some (.cells #[.bool (decide (0 < k)), .int .i64 (lastEn l k), .int .i64 0, v] 38 (0, 0))
  vt : TwIn wr v (lastT l k)
  off : Off v gl
  an : AnsS base wr av l
  gr : wr.heap[gb]? = some (.cells #[.pointer (some ⟨s, 0, none⟩), .int .i64 lev, bodyF sb, .int .i64 (k + 1 : Nat), .int .i64 (farN l (k + 1))] 77 (0, 0))
  kp : KeepT base TA true w wr
def AllS [Watch] (base : Nat) (w wr : World) (s m : Nat) (sv : Value) (F : Live) (p : Pr) (sb gb : Nat) (lev : Int) (av : Value) (l : List An) (R X k : Nat) : Prop := ∃ g lv rv rl v gl, AllSt base w wr s m sv F p sb gb lev av l R X k g lv rv rl v gl

theorem fdA_succ (l : List An) (lev : Int) (k : Nat) (v : Value) : fdA l lev (k + 1) v = ⟨true, (atA l k).en, lev, (atA l k).tree, v⟩ := by simp [fdA]
theorem ask_next [Watch] {base s m : Nat} {sv v : Value} {F : Live} {p : Pr} {sb gb k : Nat} {lev : Int} {av rv rl : Value} {gl : List Lnt} {l : List An} (w : World)
    (hs : StIs base w s m sv (F ++ [(p, fdA l lev (k + 1) v)])) (hc : ScIs base w sb s p lev av rv rl (rdsA l lev (k + 1)) gl true) (htr : gl.map (·.2) = treesA l (k + 1)) (ha : AnsS base w av l) (hk : k + 1 < 100000) (ht : ∀ n, (atA l n).tree.length ≤ 1000000)
    (hgb : w.heap[gb]? = some (.cells #[.pointer (some ⟨s, 0, none⟩), .int .i64 lev, bodyF sb, .int .i64 (k + 1 : Nat), .int .i64 (farN l (k + 1))] 77 (0, 0))) (hbg : base ≤ gb) :
    Calls Try.prog 37 #[.pointer (some ⟨gb, 0, none⟩)] w fun e w' =>
      ∃ g rv' lv', e = .returned (.tuple #[.agg #[.bool (atA l (k + 1)).is, .int .i64 (atA l (k + 1)).en, .int .i64 (atA l (k + 1)).far, lntv (g, (atA l (k + 1)).tree)], .int .i64 (atA l (k + 1)).err]) ∧
        ScIs base w' sb s p lev av rv' lv' (rdsA l lev (k + 2)) (gl ++ [(g, (atA l (k + 1)).tree)]) true ∧ w.heap.size ≤ g ∧
        w'.heap[gb]? = some (.cells #[.pointer (some ⟨s, 0, none⟩), .int .i64 lev, bodyF sb, .int .i64 (k + 2 : Nat), .int .i64 (farN l (k + 2))] 77 (0, 0)) ∧ KeepT base TA false w w' := by
  have hlen : gl.length = k + 1 := by have := congrArg List.length htr; simpa [treesA] using this
  have hr := rdsA_len l lev (k + 1)
  have h := ask_any (f := fdA l lev (k + 1) v) w hs hc ha (by rw [hlen, hr]) (by rw [hr]; exact hk) (by rw [fdA_succ]; exact ht k) (by rw [hr]; exact ht _) (.inr (by rw [hr]; exact (fdA_asked l lev (k + 1) v).resolve_left (by omega))) (by rw [hr]; exact hgb) hbg
  rw [hr] at h
  refine h.mono fun e w' ⟨g, rv', lv', he, h1, h2, h3, h4⟩ => ⟨g, rv', lv', he, ?_, h2, ?_, h4⟩
  · rw [rdOf_fdA, ← rdsA_succ] at h1
    exact h1
  · rw [farN_next] at h3
    exact h3
/-- a lent list of twigs, as one that is read. -/
theorem lnt_in [Watch] {base sb s : Nat} {p : Pr} {lev : Int} {av rv lv : Value} {rds : List Rd} {gl : List Lnt} {ok : Bool} {w : World} (h : ScIs base w sb s p lev av rv lv rds gl ok) {x : Lnt} (hx : x ∈ gl) (hl : x.2.length ≤ 1000000) : TwIn w (lntv x) x.2 :=
  ⟨(h.lents x hx).tw hl, fun g off n cap e _ => by
    unfold lntv at e
    simp only [Value.slice.injEq, Option.some.injEq, Addr.mk.injEq] at e
    obtain ⟨⟨rfl, -, -⟩, -, -⟩ := e
    exact ⟨_, _, h.lents x hx⟩⟩
theorem all_first [Watch] {base s m : Nat} {sv : Value} {F : Live} {p : Pr} {sb gb g : Nat} {lev : Int} {av rv rl : Value} {l : List An} {w u w2 : World}
    (hs : StIs base w s m sv (F ++ [(p, Fd.none)])) (ha : AnsS base w av l) (hb : Below w.heap.size w u) (hk : KeepT base TA false u w2) (h1 : w2.heap[w.heap.size]? = some (.cells #[.bool false, .int .i64 0, .int .i64 0, .slice none 0 0] 38 (0, 0)))
    (hsc : ScIs base w2 sb s p lev av rv rl [((rdOf Fd.none lev).1, (rdOf Fd.none lev).2.1, (rdOf Fd.none lev).2.2.2)] [(g, (atA l 0).tree)] true)
    (hgr : w2.heap[gb]? = some (.cells #[.pointer (some ⟨s, 0, none⟩), .int .i64 lev, bodyF sb, .int .i64 ((0 : Nat) + 1), .int .i64 (nextFar 0 0 (atA l 0).far)] 77 (0, 0))) :
    AllS base w (w2.alloc (.cells #[.bool (atA l 0).is, .int .i64 (atA l 0).en, .int .i64 (atA l 0).far, .slice (some ⟨g, 0, none⟩) (atA l 0).tree.length ((atA l 0).tree.length + 12)] 38 (0, 0))) s m sv F p sb gb lev av l w.heap.size w2.heap.size 0 := by
  obtain ⟨hb3, h3⟩ := one_new w2 (.cells #[.bool (atA l 0).is, .int .i64 (atA l 0).en, .int .i64 (atA l 0).far, .slice (some ⟨g, 0, none⟩) (atA l 0).tree.length ((atA l 0).tree.length + 12)] 38 (0, 0))
  have hk2 : KeepT base TA false w w2 := KeepT.trans (KeepT.ofBelow hb) hk
  refine ⟨g, .slice none 0 0, rv, rl, .slice none 0 0, [(g, (atA l 0).tree)], ⟨⟨.slice none 0 0, ((hs.keepT hk2 (by decide) (by decide) (by decide)).later hb3)⟩, ?_, by simp [treesA], h3, by simp, (hb3.block _ (lt_of_block h1)).trans h1, TwIn.nil _, fun _ _ _ _ e => by simp at e, (ha.keep (KeepT.mono hk2 (by decide) (fun h => by simp at h))).later hb3, ?_, KeepT.trans (KeepT.mono hk2 (fun _ h => h) (fun h => by simp at h)) (KeepT.ofBelow hb3)⟩⟩
  · have e : rdsA l lev (0 + 1) = [((rdOf Fd.none lev).1, (rdOf Fd.none lev).2.1, (rdOf Fd.none lev).2.2.2)] := by simp [rdsA, rdA, rdOf, Fd.none]
    rw [e]
    exact hsc.later hb3
  · rw [← farN_next]
    exact (hb3.block _ (lt_of_block hgr)).trans hgr

set_option maxRecDepth 100000 in
set_option maxHeartbeats 4000000 in
theorem all_any [Watch] {base s m : Nat} {sv : Value} {F : Live} {p : Pr} {sb gb : Nat} {lev : Int} {av rv lv : Value} {l : List An} {T : Nat} (w : World)
    (hs : StIs base w s m sv (F ++ [(p, Fd.none)])) (hc : ScIs base w sb s p lev av rv lv [] [] true) (ha : AnsS base w av l) (hl : l.length < 90000) (ht : ∀ a ∈ l, a.tree.length ≤ 1000000) (hT : Stops l T)
    (hgb : w.heap[gb]? = some (.cells #[.pointer (some ⟨s, 0, none⟩), .int .i64 lev, bodyF sb, .int .i64 0, .int .i64 0] 77 (0, 0))) (hbg : base ≤ gb) :
    Calls Try.prog 23 #[.pointer (some ⟨gb, 0, none⟩)] w fun e w' => ∃ v rv rl gl,
      e = .returned (.tuple #[.agg #[.bool (decide (0 < T)), .int .i64 (lastEn l T), .int .i64 0, v], .int .i64 (atA l T).err]) ∧ (∃ v, StIs base w' s m sv (F ++ [(p, fdA l lev T v)])) ∧ ScIs base w' sb s p lev av rv rl (rdsA l lev (T + 1)) gl true ∧ gl.map (·.2) = treesA l (T + 1) ∧ TwIn w' v (lastT l T) ∧ Off v gl ∧
        w'.heap[gb]? = some (.cells #[.pointer (some ⟨s, 0, none⟩), .int .i64 lev, bodyF sb, .int .i64 (T + 1 : Nat), .int .i64 (farN l (T + 1))] 77 (0, 0)) ∧ KeepT base TA true w w' := by
  have hTl : T ≤ l.length := by
    rcases Nat.lt_or_ge l.length T with h | h
    · exact absurd (hT.1 _ h) (onA_end l)
    · exact h
  have htr : ∀ n, (atA l n).tree.length ≤ 1000000 := fun n => by
    by_cases h : n < l.length
    · rw [atA_lt h]; exact ht _ (List.getElem_mem _)
    · rw [atA_ge h]; simp [An.none]
  have HTr := Lib.hid htr
  have HTs := Lib.hid hT
  have HTl := Lib.hid hTl
  have Hl := Lib.hid hl
  have Hbg := Lib.hid hbg
  have hask := (fun (wq : World) (hb : Below w.heap.size w wq) => ask_any wq (hs.later hb) (hc.later hb) (ha.later hb) rfl (by simp) (by simp [Fd.none]) (htr 0) (.inl rfl) ((hb.block _ (lt_of_block hgb)).trans hgb) hbg)
  simp only [List.length_nil, List.nil_append] at hask
  have Hask := Lib.hid hask
  have Hs := Lib.hid hs
  have Ha := Lib.hid ha
  clear hask hs hc ha hl ht hT hgb hbg hTl htr
  go_enter Try.func23, Try.ntmps23
  go_upto_region 1 with (fail)
  refine gen_world (S := fun u => Below w.heap.size w u ∧ u.heap[w.heap.size]? = some (.cells #[.bool false, .int .i64 0, .int .i64 0, .slice none 0 0] 38 (0, 0))) (one_new w _) (fun u hu => ?_)
  obtain ⟨hb, h1⟩ := hu
  have Hb := Lib.hid hb
  have H1 := Lib.hid h1
  clear hb h1
  go_wp2_with fail
  refine (Hask.out u Hb.out).mono ?_
  rintro e w2 ⟨g, rv', lv', rfl, hsc, hgg, hgr, hk⟩
  unfold lntv
  have H1' := Lib.hid (hk.cells H1.out (by decide))
  have Hsc := Lib.hid hsc
  have Hgg := Lib.hid hgg
  have Hgr := Lib.hid hgr
  have Hk := Lib.hid hk
  clear hsc hgg hgr hk H1 Hask
  go_wp2_with fail
  have hAll := all_first Hs.out Ha.out Hb.out Hk.out H1'.out Hsc.out Hgr.out
  have hX2 : w.heap.size ≠ w2.heap.size := by have := lt_of_block H1'.out; omega
  refine gen_world (S := fun w3 => AllS base w w3 s m sv F p sb gb lev av l w.heap.size w2.heap.size 0) hAll (fun w3 hA => ?_)
  obtain ⟨X, hX⟩ : ∃ X, X = w2.heap.size := ⟨_, rfl⟩
  obtain ⟨R, hR⟩ : ∃ R, R = w.heap.size := ⟨_, rfl⟩
  rw [← hX, ← hR] at hA hX2
  rw [← hX, ← hR]
  have HA := Lib.hid hA
  have HR := Lib.hid hR
  have HXn := Lib.hid (show w.heap.size ≤ X by rw [hX]; have := lt_of_block H1'.out; omega)
  clear hA hAll Hs Hb Hk H1' Hsc Hgr Hgg hX hR
  go_loopw [3] (fun e wr => ∃ k, k ≤ T ∧ e = .int .i64 (atA l k).err ∧ AllS base w wr s m sv F p sb gb lev av l R X k) (fun _ wr => T + 1 - (intOf ((wr.cell? ⟨gb, 3, none⟩).getD undef)).toNat)
  case atStart => exact ⟨0, Nat.zero_le _, rfl, HA.out⟩
  case round =>
    obtain ⟨k, hkT, rfl, g2, lv2, rv2, rl2, v2, gl2, hA⟩ := hrel
    obtain ⟨x0, x1, x2, x3, -, -, -, -⟩ := four_box hA.x
    obtain ⟨r0, r1, r2, r3, k0, k1, k2, k3⟩ := four_box hA.r
    unfold lntv at x3
    simp only at x3
    have HA := Lib.hid hA
    have HkT := Lib.hid hkT
    clear hA hkT
    go_upto_region 3 with (fail)
    go_cut [30] (fun t30 w1 => t30 = .bool (decide (onA l k)) ∧ w1 = wr)
    case first =>
      by_cases he : (atA l k).err = 0
      · have qe : ((atA l k).err == 0) = true := by rw [he]; rfl
        have qe2 : decide ((atA l k).err = 0) = true := by rw [he]; rfl
        cases hi : (atA l k).is with
        | false =>
          have hn : ¬ onA l k := fun h => by have := h.2.1; rw [hi] at this; simp at this
          rw [hi] at x0
          clear he hi x1 x2 x3 r0 r1 r2 r3
          go_wp2_with fail
          go_meet
          exact ⟨by simp [hn], rfl⟩
        | true =>
          rw [hi] at x0
          by_cases hk0 : k = 0
          · have hn : onA l k := ⟨he, hi, .inl hk0⟩
            have q0 : decide (0 < k) = false := by simp; omega
            rw [q0] at r0
            have Hn := Lib.hid hn
            clear he hi hn hk0 q0 x1 x2 x3 r1 r2 r3
            go_wp2_with fail
            go_meet
            exact ⟨by simp [Hn.out], rfl⟩
          · have q0 : decide (0 < k) = true := by simp; omega
            have ql : lastEn l k = (atA l (k - 1)).en := by unfold lastEn; rw [if_neg hk0]
            rw [q0] at r0
            by_cases hgt : (atA l (k - 1)).en < (atA l k).en
            · have hn : onA l k := ⟨he, hi, .inr hgt⟩
              have q1 : decide (lastEn l k < (atA l k).en) = true := by rw [ql]; simpa using hgt
              have q2 : lastEn l k < (atA l k).en := by rw [ql]; exact hgt
              have Hn := Lib.hid hn
              clear he hi hn hk0 q0 ql hgt x2 x3 r2 r3
              go_wp2_with fail
              go_meet
              exact ⟨by simp [Hn.out], rfl⟩
            · have hn : ¬ onA l k := fun h => by
                rcases h.2.2 with h | h
                · exact hk0 h
                · exact hgt h
              have q1 : decide (lastEn l k < (atA l k).en) = false := by rw [ql]; simpa using hgt
              have q2 : ¬ lastEn l k < (atA l k).en := by rw [ql]; exact hgt
              have Hn := Lib.hid hn
              clear he hi hn hk0 q0 ql hgt x2 x3 r2 r3
              go_wp2_with fail
              go_meet
              exact ⟨by simp [Hn.out], rfl⟩
      · have hn : ¬ onA l k := fun h => he h.1
        have qe : ((atA l k).err == 0) = false := by simpa using he
        have qe2 : decide ((atA l k).err = 0) = false := by simpa using he
        have Hn := Lib.hid hn
        clear he hn x0 x1 x2 x3 r0 r1 r2 r3
        go_wp2_with fail
        go_meet
        exact ⟨by simp [Hn.out], rfl⟩
    case rest =>
      obtain ⟨ht30, hwc⟩ := hcut
      obtain rfl := hwc
      by_cases hn : onA l k
      · have hkT : k < T := by
          rcases Nat.lt_or_ge k T with h | h
          · exact h
          · have := HkT.out
            have : k = T := by omega
            subst this
            exact absurd hn HTs.out.2
        have ht := ht30.trans (congrArg Value.bool (decide_eq_true hn))
        clear ht30
        subst ht
        have Hn := Lib.hid hn
        have HkT := Lib.hid hkT
        have hlen : (atA l k).tree.length ≤ 1000000 := HTr.out k
        have Hlen := Lib.hid hlen
        have hti := lnt_in HA.out.sc HA.out.mem hlen
        have HTI := Lib.hid hti
        clear hn hkT hlen hti
        go_upto_region 4 with (fail)
        have HDr := Lib.hid ((Below.refl wc.heap.size wc).drew)
        refine wp_region_held_drew (S := fun wq => wq.heap[X]? = some (.cells #[.bool (atA l k).is, .int .i64 (atA l k).en, .int .i64 (atA l k).far, lntv (g2, (atA l k).tree)] 38 (0, 0))) (by kernel_rfl) ((HDr.out.block _ (lt_of_block HA.out.x)).trans HA.out.x) (fun hS => ?_)
        refine wpAnyH_take (i := 0) (oi := ⟨_, _, _, _, _, _⟩) (v := ?v1) rfl (by kernel_rfl) (by kernel_rfl) (by kernel_rfl) (fun _ _ _ h => h) ?y1 hS ?_
        case y1 => first | (refine Or.inr ⟨by rfl, ?_⟩; with_reducible rfl) | (refine Or.inl ⟨by rfl, ?_⟩; intro wS hSw; obtain ⟨x0S, x1S, x2S, x3S, -⟩ := four_box hSw; unfold lntv at x3S; simp only at x3S; go_simp; try with_reducible rfl)
        simp only [Act.put, List.setIfInBounds_toArray, List.set_cons_zero, List.set_cons_succ]
        refine wpAnyH_take (i := 1) (oi := ⟨_, _, _, _, _, _⟩) (v := ?v2) rfl (by kernel_rfl) (by kernel_rfl) (by kernel_rfl) (fun _ _ _ h => h) ?y2 hS ?_
        case y2 => first | (refine Or.inr ⟨by rfl, ?_⟩; with_reducible rfl) | (refine Or.inl ⟨by rfl, ?_⟩; intro wS hSw; obtain ⟨x0S, x1S, x2S, x3S, -⟩ := four_box hSw; unfold lntv at x3S; simp only at x3S; go_simp; try with_reducible rfl)
        simp only [Act.put, List.setIfInBounds_toArray, List.set_cons_zero, List.set_cons_succ]
        refine wpAnyH_take (i := 2) (oi := ⟨_, _, _, _, _, _⟩) (v := ?v3) rfl (by kernel_rfl) (by kernel_rfl) (by kernel_rfl) (fun _ _ _ h => h) ?y3 hS ?_
        case y3 => first | (refine Or.inr ⟨by rfl, ?_⟩; with_reducible rfl) | (refine Or.inl ⟨by rfl, ?_⟩; intro wS hSw; obtain ⟨x0S, x1S, x2S, x3S, -⟩ := four_box hSw; unfold lntv at x3S; simp only at x3S; go_simp; try with_reducible rfl)
        simp only [Act.put, List.setIfInBounds_toArray, List.set_cons_zero, List.set_cons_succ]
        refine wpAnyH_take (i := 3) (oi := ⟨_, _, _, _, _, _⟩) (v := ?v4) rfl (by kernel_rfl) (by kernel_rfl) (by kernel_rfl) (fun _ _ _ h => h) ?y4 hS ?_
        case y4 => first | (refine Or.inr ⟨by rfl, ?_⟩; with_reducible rfl) | (refine Or.inl ⟨by rfl, ?_⟩; intro wS hSw; obtain ⟨x0S, x1S, x2S, x3S, -⟩ := four_box hSw; unfold lntv at x3S; simp only at x3S; go_simp; try with_reducible rfl)
        simp only [Act.put, List.setIfInBounds_toArray, List.set_cons_zero, List.set_cons_succ]
        refine wpAnyH_ready (rs := [4]) (by kernel_rfl) (by simp) ?_
        refine AllReadyH.cons (o := ⟨_, _, _, _, _, _⟩) rfl (fun K hK => ?_) AllReadyH.nil
        go_simp
        refine (tw_clone2 _ (atA l k).tree _ (HTI.out.later HDr.out) Hlen.out).mono ?_
        rintro e wx ⟨v', rfl, hTv, hfr, hbx⟩
        have hbx2 := HDr.out.trans hbx
        obtain ⟨vo, vc, rfl⟩ := hTv.1.val
        go_wp2_with fail
        have hS : wx.heap[X]? = some (.cells #[.bool (atA l k).is, .int .i64 (atA l k).en, .int .i64 (atA l k).far, lntv (g2, (atA l k).tree)] 38 (0, 0)) := (hbx.block _ (lt_of_block hS)).trans hS
        refine hK.out _ _ (hS) (fun _ => ?_)
        clear hK K
        try simp only [Act.put, List.setIfInBounds_toArray, List.set_cons_zero, List.set_cons_succ]
        refine wpAnyH_take (i := 5) (oi := ⟨_, _, _, _, _, _⟩) (v := ?v5) rfl (by kernel_rfl) (by kernel_rfl) (by kernel_rfl) (fun _ _ _ h => h) ?y5 hS ?_
        case y5 => first | (refine Or.inr ⟨by rfl, ?_⟩; with_reducible rfl) | (refine Or.inl ⟨by rfl, ?_⟩; intro wS hSw; go_simp; try with_reducible rfl)
        simp only [Act.put, List.setIfInBounds_toArray, List.set_cons_zero, List.set_cons_succ]
        have hrx := (hbx2.block _ (lt_of_block HA.out.r)).trans HA.out.r
        have HRx := Lib.hid hrx
        have HTv := Lib.hid hTv
        have Hfr := Lib.hid hfr
        have Hbx := Lib.hid hbx2
        clear r0 r1 r2 r3 k0 k1 k2 k3 hTv hfr hbx hbx2
        obtain ⟨r0, r1, r2, r3, k0, k1, k2, k3⟩ := four_box hrx
        clear hrx
        refine wpAnyH_ready (rs := [6]) (by kernel_rfl) (by simp) ?_
        refine AllReadyH.cons (o := ⟨_, _, _, _, _, _⟩) rfl (fun K hK => ?_) AllReadyH.nil
        go_simp
        obtain ⟨q, hq⟩ := set4 HRx.out (.bool true) (.int .i64 (atA l k).en) (.int .i64 0) (.slice vo (atA l k).tree.length vc)
        refine hK.out _ _ (hq.obj hS (Ne.symm hX2)) (fun _ => ?_)
        clear hK K
        try simp only [Act.put, List.setIfInBounds_toArray, List.set_cons_zero, List.set_cons_succ]
        refine wpAnyH_done (by kernel_rfl) ?_ _
        have hkq : KeepT 0 [38] false wx _ := Keeps.mono hq fun k _ e => by subst e; exact ⟨Nat.zero_le _, by unfold Tyb; rw [HRx.out]; simp⟩
        have hk4 : KeepT 0 [38] false wc _ := KeepT.trans (KeepT.ofBelow Hbx.out) hkq
        have hx4 := hq.obj hS (Ne.symm hX2)
        have hrn : R ≥ w.heap.size := Nat.le_of_eq HR.out.symm
        have hkn : KeepT base TA true w _ := Keeps.set_new (KeepT.trans HA.out.kp (KeepT.ofBelow Hbx.out)) hq hrn
        have hT4 := HTv.out.keepT hkq (by decide)
        have hof : Off (.slice vo (atA l k).tree.length vc) gl2 := fun g off n cap e hn0 x hx e2 => by
          have h1 := Hfr.out g off n cap e
          have h2 := lt_of_block (HA.out.sc.lents x hx)
          have h3 : wc.heap.size ≤ wc.drew.heap.size := Nat.le_refl _
          omega
        have hlt0 : lastT l (k + 1) = (atA l k).tree := by unfold lastT; simp
        refine gen_any (S := fun u4 => u4.heap[X]? = some (.cells #[.bool (atA l k).is, .int .i64 (atA l k).en, .int .i64 (atA l k).far, lntv (g2, (atA l k).tree)] 38 (0, 0)) ∧ u4.heap[R]? = some (.cells #[.bool true, .int .i64 (atA l k).en, .int .i64 0, .slice vo (atA l k).tree.length vc] 38 (0, 0)) ∧ KeepT 0 [38] false wc u4 ∧ KeepT base TA true w u4 ∧ TwIn u4 (.slice vo (atA l k).tree.length vc) (atA l k).tree) ⟨hx4, q, hk4, hkn, hT4⟩ (fun u4 hu4 => ?_)
        obtain ⟨hx4, hr4, hk4, hkn, hT4⟩ := hu4
        have Hof := Lib.hid hof
        clear x0 x1 x2 x3 r0 r1 r2 r3 k0 k1 k2 k3 hkq hof hS q hq HRx HTv Hfr Hbx
        obtain ⟨vf, hst⟩ := HA.out.st
        have hst4 := hst.keepT hk4 (by decide) (by decide) (by decide)
        have hsc4 := HA.out.sc.keepT hk4 (by decide) (by decide) (by decide) (by decide)
        have hg4 := hk4.cells HA.out.gr (by decide)
        have han4 := Ha.out.keep (KeepT.mono hkn (by decide) (fun h => h))
        have hti4 := HTI.out.keepT hk4 (by decide)
        have HST := Lib.hid hst4
        have HSC := Lib.hid hsc4
        have HAN := Lib.hid han4
        have HTI4 := Lib.hid hti4
        have HX4 := Lib.hid hx4
        have HR4 := Lib.hid hr4
        have HG4 := Lib.hid hg4
        have HKN := Lib.hid hkn
        have HT4 := Lib.hid hT4
        clear hst hst4 hsc4 han4 hti4 hx4 hr4 hg4 hk4 hkn hT4 hrn hlt0 HTI HDr
        go_upto_region 5 with (fail)
        have HDr := Lib.hid ((Below.refl u4.heap.size u4).drew)
        refine wp_region_held_drew (S := fun wq => wq.heap[X]? = some (.cells #[.bool (atA l k).is, .int .i64 (atA l k).en, .int .i64 (atA l k).far, lntv (g2, (atA l k).tree)] 38 (0, 0)) ∧ wq.heap[gb]? = some (.cells #[.pointer (some ⟨s, 0, none⟩), .int .i64 lev, bodyF sb, .int .i64 (k + 1 : Nat), .int .i64 (farN l (k + 1))] 77 (0, 0))) (by kernel_rfl) ⟨(HDr.out.block _ (lt_of_block HX4.out)).trans HX4.out, (HDr.out.block _ (lt_of_block HG4.out)).trans HG4.out⟩ (fun hS => ?_)
        refine wpAnyH_take (i := 0) (oi := ⟨_, _, _, _, _, _⟩) (v := ?v6) rfl (by kernel_rfl) (by kernel_rfl) (by kernel_rfl) (fun _ _ _ h => h) ?y6 hS ?_
        case y6 => first | (refine Or.inr ⟨by rfl, ?_⟩; with_reducible rfl) | (refine Or.inl ⟨by rfl, ?_⟩; intro wS hSw; obtain ⟨x0S, x1S, x2S, x3S, -⟩ := four_box hSw.1; unfold lntv at x3S; simp only at x3S; obtain ⟨b0S, b1S, -⟩ := five_box hSw.2; go_simp; try with_reducible rfl)
        simp only [Act.put, List.setIfInBounds_toArray, List.set_cons_zero, List.set_cons_succ]
        refine wpAnyH_take (i := 1) (oi := ⟨_, _, _, _, _, _⟩) (v := ?v7) rfl (by kernel_rfl) (by kernel_rfl) (by kernel_rfl) (fun _ _ _ h => h) ?y7 hS ?_
        case y7 => first | (refine Or.inr ⟨by rfl, ?_⟩; with_reducible rfl) | (refine Or.inl ⟨by rfl, ?_⟩; intro wS hSw; obtain ⟨x0S, x1S, x2S, x3S, -⟩ := four_box hSw.1; unfold lntv at x3S; simp only at x3S; obtain ⟨b0S, b1S, -⟩ := five_box hSw.2; go_simp; try with_reducible rfl)
        simp only [Act.put, List.setIfInBounds_toArray, List.set_cons_zero, List.set_cons_succ]
        refine wpAnyH_take (i := 2) (oi := ⟨_, _, _, _, _, _⟩) (v := ?v8) rfl (by kernel_rfl) (by kernel_rfl) (by kernel_rfl) (fun _ _ _ h => h) ?y8 hS ?_
        case y8 => first | (refine Or.inr ⟨by rfl, ?_⟩; with_reducible rfl) | (refine Or.inl ⟨by rfl, ?_⟩; intro wS hSw; obtain ⟨x0S, x1S, x2S, x3S, -⟩ := four_box hSw.1; unfold lntv at x3S; simp only at x3S; obtain ⟨b0S, b1S, -⟩ := five_box hSw.2; go_simp; try with_reducible rfl)
        simp only [Act.put, List.setIfInBounds_toArray, List.set_cons_zero, List.set_cons_succ]
        refine wpAnyH_take (i := 3) (oi := ⟨_, _, _, _, _, _⟩) (v := ?v9) rfl (by kernel_rfl) (by kernel_rfl) (by kernel_rfl) (fun _ _ _ h => h) ?y9 hS ?_
        case y9 => first | (refine Or.inr ⟨by rfl, ?_⟩; with_reducible rfl) | (refine Or.inl ⟨by rfl, ?_⟩; intro wS hSw; obtain ⟨x0S, x1S, x2S, x3S, -⟩ := four_box hSw.1; unfold lntv at x3S; simp only at x3S; obtain ⟨b0S, b1S, -⟩ := five_box hSw.2; go_simp; try with_reducible rfl)
        simp only [Act.put, List.setIfInBounds_toArray, List.set_cons_zero, List.set_cons_succ]
        refine wpAnyH_take (i := 4) (oi := ⟨_, _, _, _, _, _⟩) (v := ?v10) rfl (by kernel_rfl) (by kernel_rfl) (by kernel_rfl) (fun _ _ _ h => h) ?y10 hS ?_
        case y10 => first | (refine Or.inr ⟨by rfl, ?_⟩; with_reducible rfl) | (refine Or.inl ⟨by rfl, ?_⟩; intro wS hSw; obtain ⟨x0S, x1S, x2S, x3S, -⟩ := four_box hSw.1; unfold lntv at x3S; simp only at x3S; obtain ⟨b0S, b1S, -⟩ := five_box hSw.2; go_simp; try with_reducible rfl)
        simp only [Act.put, List.setIfInBounds_toArray, List.set_cons_zero, List.set_cons_succ]
        refine wpAnyH_take (i := 5) (oi := ⟨_, _, _, _, _, _⟩) (v := ?v11) rfl (by kernel_rfl) (by kernel_rfl) (by kernel_rfl) (fun _ _ _ h => h) ?y11 hS ?_
        case y11 => first | (refine Or.inr ⟨by rfl, ?_⟩; with_reducible rfl) | (refine Or.inl ⟨by rfl, ?_⟩; intro wS hSw; obtain ⟨x0S, x1S, x2S, x3S, -⟩ := four_box hSw.1; unfold lntv at x3S; simp only at x3S; obtain ⟨b0S, b1S, -⟩ := five_box hSw.2; go_simp; try with_reducible rfl)
        simp only [Act.put, List.setIfInBounds_toArray, List.set_cons_zero, List.set_cons_succ]
        refine wpAnyH_take (i := 6) (oi := ⟨_, _, _, _, _, _⟩) (v := ?v12) rfl (by kernel_rfl) (by kernel_rfl) (by kernel_rfl) (fun _ _ _ h => h) ?y12 hS ?_
        case y12 => first | (refine Or.inr ⟨by rfl, ?_⟩; with_reducible rfl) | (refine Or.inl ⟨by rfl, ?_⟩; intro wS hSw; obtain ⟨x0S, x1S, x2S, x3S, -⟩ := four_box hSw.1; unfold lntv at x3S; simp only at x3S; obtain ⟨b0S, b1S, -⟩ := five_box hSw.2; go_simp; try with_reducible rfl)
        simp only [Act.put, List.setIfInBounds_toArray, List.set_cons_zero, List.set_cons_succ]
        refine wpAnyH_take (i := 7) (oi := ⟨_, _, _, _, _, _⟩) (v := ?v13) rfl (by kernel_rfl) (by kernel_rfl) (by kernel_rfl) (fun _ _ _ h => h) ?y13 hS ?_
        case y13 => first | (refine Or.inr ⟨by rfl, ?_⟩; with_reducible rfl) | (refine Or.inl ⟨by rfl, ?_⟩; intro wS hSw; obtain ⟨x0S, x1S, x2S, x3S, -⟩ := four_box hSw.1; unfold lntv at x3S; simp only at x3S; obtain ⟨b0S, b1S, -⟩ := five_box hSw.2; go_simp; try with_reducible rfl)
        simp only [Act.put, List.setIfInBounds_toArray, List.set_cons_zero, List.set_cons_succ]
        refine wpAnyH_take (i := 8) (oi := ⟨_, _, _, _, _, _⟩) (v := ?v14) rfl (by kernel_rfl) (by kernel_rfl) (by kernel_rfl) (fun _ _ _ h => h) ?y14 hS ?_
        case y14 => first | (refine Or.inr ⟨by rfl, ?_⟩; with_reducible rfl) | (refine Or.inl ⟨by rfl, ?_⟩; intro wS hSw; obtain ⟨x0S, x1S, x2S, x3S, -⟩ := four_box hSw.1; unfold lntv at x3S; simp only at x3S; obtain ⟨b0S, b1S, -⟩ := five_box hSw.2; go_simp; try with_reducible rfl)
        simp only [Act.put, List.setIfInBounds_toArray, List.set_cons_zero, List.set_cons_succ]
        refine wpAnyH_take (i := 9) (oi := ⟨_, _, _, _, _, _⟩) (v := ?v15) rfl (by kernel_rfl) (by kernel_rfl) (by kernel_rfl) (fun _ _ _ h => h) ?y15 hS ?_
        case y15 => first | (refine Or.inr ⟨by rfl, ?_⟩; with_reducible rfl) | (refine Or.inl ⟨by rfl, ?_⟩; intro wS hSw; obtain ⟨x0S, x1S, x2S, x3S, -⟩ := four_box hSw.1; unfold lntv at x3S; simp only at x3S; obtain ⟨b0S, b1S, -⟩ := five_box hSw.2; go_simp; try with_reducible rfl)
        simp only [Act.put, List.setIfInBounds_toArray, List.set_cons_zero, List.set_cons_succ]
        refine wpAnyH_take (i := 10) (oi := ⟨_, _, _, _, _, _⟩) (v := ?v16) rfl (by kernel_rfl) (by kernel_rfl) (by kernel_rfl) (fun _ _ _ h => h) ?y16 hS ?_
        case y16 => first | (refine Or.inr ⟨by rfl, ?_⟩; with_reducible rfl) | (refine Or.inl ⟨by rfl, ?_⟩; intro wS hSw; obtain ⟨x0S, x1S, x2S, x3S, -⟩ := four_box hSw.1; unfold lntv at x3S; simp only at x3S; obtain ⟨b0S, b1S, -⟩ := five_box hSw.2; go_simp; try with_reducible rfl)
        simp only [Act.put, List.setIfInBounds_toArray, List.set_cons_zero, List.set_cons_succ]
        refine wpAnyH_take (i := 11) (oi := ⟨_, _, _, _, _, _⟩) (v := ?v17) rfl (by kernel_rfl) (by kernel_rfl) (by kernel_rfl) (fun _ _ _ h => h) ?y17 hS ?_
        case y17 => first | (refine Or.inr ⟨by rfl, ?_⟩; with_reducible rfl) | (refine Or.inl ⟨by rfl, ?_⟩; intro wS hSw; obtain ⟨x0S, x1S, x2S, x3S, -⟩ := four_box hSw.1; unfold lntv at x3S; simp only at x3S; obtain ⟨b0S, b1S, -⟩ := five_box hSw.2; go_simp; try with_reducible rfl)
        simp only [Act.put, List.setIfInBounds_toArray, List.set_cons_zero, List.set_cons_succ]
        refine wpAnyH_take (i := 12) (oi := ⟨_, _, _, _, _, _⟩) (v := ?v18) rfl (by kernel_rfl) (by kernel_rfl) (by kernel_rfl) (fun _ _ _ h => h) ?y18 hS ?_
        case y18 => first | (refine Or.inr ⟨by rfl, ?_⟩; with_reducible rfl) | (refine Or.inl ⟨by rfl, ?_⟩; intro wS hSw; obtain ⟨x0S, x1S, x2S, x3S, -⟩ := four_box hSw.1; unfold lntv at x3S; simp only at x3S; obtain ⟨b0S, b1S, -⟩ := five_box hSw.2; go_simp; try with_reducible rfl)
        simp only [Act.put, List.setIfInBounds_toArray, List.set_cons_zero, List.set_cons_succ]
        refine wpAnyH_ready (rs := [13]) (by kernel_rfl) (by simp) ?_
        refine AllReadyH.cons (o := ⟨_, _, _, _, _, _⟩) rfl (fun K hK => ?_) AllReadyH.nil
        go_simp
        refine (st_Grow (f := fdA l lev k vf) (v := lntv (g2, (atA l k).tree)) u4.drew (HST.out.later HDr.out) (HTI4.out.later HDr.out) Hlen.out (fdA_grows l lev k vf Hn.out)).mono ?_
        rintro e w5 ⟨rfl, ⟨v5, hst5⟩, hk5⟩
        go_wp2_with fail
        have hS : w5.heap[X]? = some (.cells #[.bool (atA l k).is, .int .i64 (atA l k).en, .int .i64 (atA l k).far, lntv (g2, (atA l k).tree)] 38 (0, 0)) ∧ w5.heap[gb]? = some (.cells #[.pointer (some ⟨s, 0, none⟩), .int .i64 lev, bodyF sb, .int .i64 (k + 1 : Nat), .int .i64 (farN l (k + 1))] 77 (0, 0)) := ⟨hk5.cells hS.1 (by decide), hk5.cells hS.2 (by decide)⟩
        refine hK.out _ _ (hS) (fun _ => ?_)
        clear hK K
        try simp only [Act.put, List.setIfInBounds_toArray, List.set_cons_zero, List.set_cons_succ]
        refine wpAnyH_done (by kernel_rfl) ?_ _
        rw [← fdA_succ] at hst5
        have hk5' : KeepT base [] true u4 w5 := KeepT.trans (KeepT.ofBelow HDr.out) hk5
        have HST5 := Lib.hid hst5
        have HSC5 := Lib.hid (HSC.out.keepT hk5' (by decide) (by decide) (by decide) (by decide))
        have HX5 := Lib.hid hS.1
        have HG5 := Lib.hid hS.2
        have HR5 := Lib.hid (hk5'.cells HR4.out (by decide))
        have HT5 := Lib.hid (HT4.out.keepT hk5' (by decide))
        have hkn5 : KeepT base TA true w w5 := KeepT.trans HKN.out (KeepT.mono hk5' (by simp) (fun h => h))
        have HKN5 := Lib.hid hkn5
        have HAN5 := Lib.hid (Ha.out.keep (KeepT.mono hkn5 (by decide) (fun h => h)))
        have hk9 : k + 1 < 100000 := by have := HkT.out; have := HTl.out; have := Hl.out; omega
        have HK9 := Lib.hid hk9
        clear hst5 hk5 hk5' hkn5 hS hk9 HST HSC HTI4 HX4 HR4 HG4 HKN HT4 HAN HDr
        go_wp2_with fail
        refine (ask_next w5 HST5.out HSC5.out HA.out.tr HAN5.out HK9.out HTr.out HG5.out Hbg.out).mono ?_
        rintro e w6 ⟨g6, rv6, rl6, rfl, hsc6, hg6, hgr6, hk6⟩
        have hx6 := hk6.cells HX5.out (by decide)
        have hr6 := hk6.cells HR5.out (by decide)
        have hT6 := HT5.out.keepT hk6 (by decide)
        have hst6 := HST5.out.keepT hk6 (by decide) (by decide) (by decide)
        have hkn6 : KeepT base TA true w w6 := KeepT.trans HKN5.out (KeepT.mono hk6 (fun _ h => h) (fun h => by simp at h))
        have hne : X ≠ gb := by
          intro e
          have := hx6
          rw [e, hgr6] at this
          simp at this
        have hof6 : Off (.slice vo (atA l k).tree.length vc) (gl2 ++ [(g6, (atA l (k + 1)).tree)]) := fun g off n cap e hn x hx => by
          rcases List.mem_append.1 hx with hx | hx
          · exact Hof.out g off n cap e hn x hx
          · simp at hx
            subst hx
            obtain ⟨cs, fr, hb⟩ := HT5.out.2 g off n cap e hn
            have := lt_of_block hb
            show g6 ≠ g
            omega
        obtain ⟨x0, x1, x2, x3, e0, e1, e2, e3⟩ := four_box hx6
        unfold lntv at x3
        simp only at x3
        have HX6 := Lib.hid hx6
        have HR6 := Lib.hid hr6
        have HT6 := Lib.hid hT6
        have HST6 := Lib.hid hst6
        have HKN6 := Lib.hid hkn6
        have HSC6 := Lib.hid hsc6
        have HGR6 := Lib.hid hgr6
        have HNE := Lib.hid hne
        have HOF6 := Lib.hid hof6
        clear hx6 hr6 hT6 hst6 hkn6 hsc6 hgr6 hne hof6 hk6 hg6 HST5 HSC5 HX5 HG5 HR5 HT5 HKN5 HAN5
        unfold lntv
        go_wp2_with fail
        go_roundw
        case rel =>
          obtain ⟨q, hq⟩ := set4 HX6.out (.bool (atA l (k + 1)).is) (.int .i64 (atA l (k + 1)).en) (.int .i64 (atA l (k + 1)).far) (.slice (some ⟨g6, 0, none⟩) (atA l (k + 1)).tree.length ((atA l (k + 1)).tree.length + 12))
          have hkq : KeepT 0 [38] false w6 _ := Keeps.mono hq fun k _ e => by subst e; exact ⟨Nat.zero_le _, by unfold Tyb; rw [HX6.out]; simp⟩
          have hkn7 := Keeps.set_new HKN6.out hq HXn.out
          refine ⟨k + 1, HkT.out, rfl, g6, .slice none 0 0, rv6, rl6, .slice vo (atA l k).tree.length vc, gl2 ++ [(g6, (atA l (k + 1)).tree)], ⟨⟨v5, HST6.out.keepT hkq (by decide) (by decide) (by decide)⟩, HSC6.out.keepT hkq (by decide) (by decide) (by decide) (by decide), ?_, q, by simp, ?_, ?_, HOF6.out, Ha.out.keep (KeepT.mono hkn7 (by decide) (fun h => h)), hq.obj HGR6.out (Ne.symm HNE.out), hkn7⟩⟩
          · rw [List.map_append, HA.out.tr, treesA_succ l (k + 1)]; rfl
          · have e1 : decide (0 < k + 1) = true := by simp
            have e2 : lastEn l (k + 1) = (atA l k).en := by simp [lastEn]
            rw [e1, e2]
            exact hq.obj HR6.out hX2
          · have e3 : lastT l (k + 1) = (atA l k).tree := by simp [lastT]
            rw [e3]
            exact HT6.out.keepT hkq (by decide)
        case measure =>
          obtain ⟨q, hq⟩ := set4 HX6.out (.bool (atA l (k + 1)).is) (.int .i64 (atA l (k + 1)).en) (.int .i64 (atA l (k + 1)).far) (.slice (some ⟨g6, 0, none⟩) (atA l (k + 1)).tree.length ((atA l (k + 1)).tree.length + 12))
          have m1 := (five_box (hq.obj HGR6.out (Ne.symm HNE.out))).2.2.2.1
          have m2 := (five_box HA.out.gr).2.2.2.1
          have m3 := HkT.out
          rw [m1, m2]
          simp only [Option.getD_some, intOf]
          omega
      · have hkT : k = T := by
          rcases Nat.lt_or_ge k T with h | h
          · exact absurd (HTs.out.1 k h) hn
          · have := HkT.out; omega
        have ht := ht30.trans (congrArg Value.bool (decide_eq_false hn))
        clear ht30
        subst ht
        have HkE := Lib.hid hkT
        obtain ⟨vo, vc, hv⟩ := HA.out.vt.1.val
        rw [hv] at r3
        have Hv := Lib.hid hv
        clear hkT hn hv x0 x1 x2 x3
        go_wp2
        have hr := HA.out.r
        rw [Hv.out] at hr
        obtain ⟨q, hq⟩ := set4 hr (.bool (decide (0 < k))) (.int .i64 (lastEn l k)) (.int .i64 0) (.slice vo (lastT l k).length vc)
        obtain ⟨q0, q1, q2, q3, -, -, -, -⟩ := four_box q
        have hkq : KeepT 0 [38] false wc _ := Keeps.mono hq fun k _ e => by subst e; exact ⟨Nat.zero_le _, by unfold Tyb; rw [hr]; simp⟩
        have hne : gb ≠ R := by
          intro e
          have := HA.out.gr
          rw [e, hr] at this
          simp at this
        have e := HkE.out
        obtain ⟨vf, hst⟩ := HA.out.st
        have hvt := HA.out.vt
        have hof := HA.out.off
        rw [Hv.out] at hvt hof
        refine bodyPost_ret (v := .tuple #[.agg #[.bool (decide (0 < k)), .int .i64 (lastEn l k), .int .i64 0, .slice vo (lastT l k).length vc], .int .i64 (atA l k).err]) (by simp [results, Try.f23, go_sem, q0, q1, q2, q3]) rfl ?_
        rw [← e]
        exact ⟨_, rv2, rl2, gl2, rfl, ⟨vf, hst.keepT hkq (by decide) (by decide) (by decide)⟩, HA.out.sc.keepT hkq (by decide) (by decide) (by decide) (by decide), HA.out.tr, hvt.keepT hkq (by decide), hof, hq.obj HA.out.gr hne, Keeps.set_new HA.out.kp hq (Nat.le_of_eq HR.out.symm)⟩
end Go.Proofs.Ytebgleehmgmfbaa
