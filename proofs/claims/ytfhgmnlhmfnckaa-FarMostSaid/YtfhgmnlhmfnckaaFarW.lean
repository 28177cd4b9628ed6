/-
  Chapter far: FarMost: the walk.
-/
import Derived.Test.YtfhgmnlhmfnckaaFarM
import Derived.Test.YtfhgmnlhmfnckaaAsk
namespace Go.Proofs.Ytfhgmnlhmfnckaa
open Go.RowKit Go.Lib

theorem stepB {u w1 w2 : World} (h : Below u.heap.size u w1) (hb : Below w1.heap.size w1 w2) : Below u.heap.size u w2 := h.trans (hb.mono h.size)
/-- what is known between two askings of the first loop. -/
structure Most1 (Ha Hb : Nat → Prop) (w0 w : World) (a b : Nat) (W : List UInt8) (M : List Miss) : Prop where
  fa : Far Ha w a ([] ++ [sumP M]) W
  fb : Far Hb w b ([] ++ [pFresh]) W
  bel : Below w0.heap.size w0 w

/-- an asking in a box. -/
def askO (q : Miss) : Obj := .cells #[.int .u64 (word q.2 0), .int .u64 (word q.2 1), .int .u64 (word q.2 2), .int .u64 (word q.2 3), .int .i64 q.1] 31 (0, 0)
theorem askO_cells {w : World} {x : Nat} {q : Miss} (h : w.heap[x]? = some (askO q)) : w.cell? ⟨x, 0, none⟩ = some (.int .u64 (word q.2 0)) ∧ w.cell? ⟨x, 1, none⟩ = some (.int .u64 (word q.2 1)) ∧ w.cell? ⟨x, 2, none⟩ = some (.int .u64 (word q.2 2)) ∧ w.cell? ⟨x, 3, none⟩ = some (.int .u64 (word q.2 3)) ∧ w.cell? ⟨x, 4, none⟩ = some (.int .i64 q.1) := by
  obtain ⟨⟨a, _⟩, ⟨b, _⟩, ⟨c, _⟩, ⟨d, _⟩, ⟨e, _⟩⟩ := five_cells h
  exact ⟨a, b, c, d, e⟩
/-- behind an asking: what the pieces leave. -/
structure Asked (Ha Hb : Nat → Prop) (w0 w : World) (a b x : Nat) (W : List UInt8) (M : List Miss) (q : Miss) : Prop where
  most : Most1 Ha Hb w0 w a b W M
  box : w.heap[x]? = some (askO q)
theorem Asked.later {Ha Hb : Nat → Prop} {w0 w w' : World} {a b x : Nat} {W : List UInt8} {M : List Miss} {q : Miss} (h : Asked Ha Hb w0 w a b x W M q) (hb : Below w.heap.size w w') : Asked Ha Hb w0 w' a b x W M q :=
  ⟨⟨h.most.fa.later hb, h.most.fb.later hb, h.most.bel.trans (hb.mono h.most.bel.size)⟩, (hb.block x (lt_of_block h.box)).trans h.box⟩
/-- the first record is asked. -/
theorem Asked.set {Ha Hb : Nat → Prop} {w0 w w' : World} {a b x : Nat} {W : List UInt8} {M : List Miss} {q : Miss} (h : Asked Ha Hb w0 w a b x W M q) (h0 : 0 ≤ q.1) (hF : Far Ha w' a ([] ++ [askA W (sumP M) q.2 q.1]) W) (hK : Keeps Ha w w')
    (hA : ∀ k, Ha k → w0.heap.size ≤ k) (hAB : ∀ k, Hb k → ¬ Ha k) (hx : ¬ Ha x) : Asked Ha Hb w0 w' a b x W (if thereB W q.2 q.1 then M else M ++ [q]) q :=
  ⟨⟨by rw [← ask_missed W M q h0]; exact hF, h.most.fb.keep hK hAB, h.most.bel.trans (hK.below h.most.bel.size hA)⟩, hK.obj h.box hx⟩

/-- what is known between two askings of the second loop: both records, what is hoped for. -/
structure Most2 (Ha Hb : Nat → Prop) (w0 w : World) (a b x : Nat) (W : List UInt8) (M N : List Miss) (h : Nat → Bool) : Prop where
  fa : Far Ha w a ([] ++ [sumP M]) W
  fb : Far Hb w b ([] ++ [sumP N]) W
  bel : Below w0.heap.size w0 w
  box : w.heap[x]? = some (.cells (clc h) 29 (0, 0))
theorem Most2.later {Ha Hb : Nat → Prop} {w0 w w' : World} {a b x : Nat} {W : List UInt8} {M N : List Miss} {h : Nat → Bool} (H : Most2 Ha Hb w0 w a b x W M N h) (hb : Below w.heap.size w w') : Most2 Ha Hb w0 w' a b x W M N h :=
  ⟨H.fa.later hb, H.fb.later hb, H.bel.trans (hb.mono H.bel.size), (hb.block x (lt_of_block H.box)).trans H.box⟩
theorem Most2.set {Ha Hb : Nat → Prop} {w0 w w' : World} {a b x : Nat} {W : List UInt8} {M N : List Miss} {h : Nat → Bool} {q : Miss} (H : Most2 Ha Hb w0 w a b x W M N h) (h0 : 0 ≤ q.1) (hF : Far Hb w' b ([] ++ [askA W (sumP N) q.2 q.1]) W) (hK : Keeps Hb w w')
    (hB : ∀ k, Hb k → w0.heap.size ≤ k) (hAB : ∀ k, Ha k → ¬ Hb k) (hx : ¬ Hb x) : Most2 Ha Hb w0 w' a b x W M (if thereB W q.2 q.1 then N else N ++ [q]) h :=
  ⟨H.fa.keep hK hAB, by rw [← ask_missed W N q h0]; exact hF, H.bel.trans (hK.below H.bel.size hB), hK.obj H.box hx⟩
/-- the class is written. -/
theorem Most2.store {Ha Hb : Nat → Prop} {w0 w : World} {a b x k : Nat} {W : List UInt8} {M N : List Miss} {h h' : Nat → Bool} {v : Value} (H : Most2 Ha Hb w0 w a b x W M N h) (hx0 : w0.heap.size ≤ x) (hxa : ¬ Ha x) (hxb : ¬ Hb x) (he : (clc h).setIfInBounds k v = clc h') :
    Most2 Ha Hb w0 (w.setCell ⟨x, k, none⟩ v) a b x W M N h' :=
  have hK : Keeps (fun k => k = x) w (w.setCell ⟨x, k, none⟩ v) := (Keeps.refl (fun k => k = x) w).setCell (p := ⟨x, k, none⟩) rfl v
  ⟨H.fa.keep hK (fun k hk e => hxa (e ▸ hk)), H.fb.keep hK (fun k hk e => hxb (e ▸ hk)), H.bel.trans (hK.below H.bel.size (fun k hk => by omega)), by rw [block_setCell' H.box, he]⟩
theorem missed_drop (W : List UInt8) (l : List Miss) {m : Nat} (h : m < l.length) : missed W (l.drop m) = if thereB W l[m].2 l[m].1 then missed W (l.drop (m + 1)) else l[m] :: missed W (l.drop (m + 1)) := by
  rw [List.drop_eq_getElem_cons h]
  unfold missed
  rw [List.filter_cons]
  cases ht : thereB W l[m].2 l[m].1 <;> simp only [Bool.not_false, Bool.not_true, if_true, Bool.false_eq_true, if_false]
theorem hopM_cons (q : Miss) (M : List Miss) (x : Int) : hopM (q :: M) x = if q.1 = x then clOr (hopM M x) q.2 else hopM M x := by
  funext b
  by_cases h : q.1 = x
  · simp [hopM, h, clOr, Bool.or_comm]
  · simp [hopM, h]

/-- what is known at the end. -/
structure Fin2 (Ha Hb : Nat → Prop) (w0 w : World) (a b x : Nat) (W : List UInt8) (T : Int) (h : Nat → Bool) : Prop where
  fa : Far Ha w a ([] ++ [(T, h)]) W
  fb : Far Hb w b ([] ++ [(T, h)]) W
  bel : Below w0.heap.size w0 w
  box : w.heap[x]? = some (.cells (clc h) 29 (0, 0))
theorem Fin2.later {Ha Hb : Nat → Prop} {w0 w w' : World} {a b x : Nat} {W : List UInt8} {T : Int} {h : Nat → Bool} (H : Fin2 Ha Hb w0 w a b x W T h) (hb : Below w.heap.size w w') : Fin2 Ha Hb w0 w' a b x W T h :=
  ⟨H.fa.later hb, H.fb.later hb, H.bel.trans (hb.mono H.bel.size), (hb.block x (lt_of_block H.box)).trans H.box⟩
theorem missed_pos {W : List UInt8} {l : List Miss} (h : ∀ q ∈ l, 0 ≤ q.1) : ∀ q ∈ missed W l, 0 ≤ q.1 := fun q hq => h q (List.mem_filter.1 hq).1
theorem asks_cell {w : World} {b o : Nat} {q : Miss} (d0 : w.cell? ⟨b, o, none⟩ = some (.int .u64 (word q.2 0))) (d1 : w.cell? ⟨b, o + 1, none⟩ = some (.int .u64 (word q.2 1))) (d2 : w.cell? ⟨b, o + 2, none⟩ = some (.int .u64 (word q.2 2))) (d3 : w.cell? ⟨b, o + 3, none⟩ = some (.int .u64 (word q.2 3))) (j : Nat) (hj : j < 4) :
    w.cell? ⟨b, o + j, none⟩ = some (.int .u64 (word q.2 j)) := by
  rcases (by omega : j = 0 ∨ j = 1 ∨ j = 2 ∨ j = 3) with rfl | rfl | rfl | rfl
  · exact d0
  · exact d1
  · exact d2
  · exact d3

set_option maxRecDepth 100000 in
set_option maxHeartbeats 40000000 in
theorem farMost_main (w : World) (v u : Value) (W : List UInt8) (l : List Miss) (hv : BytesAt w v W) (hu : AsksAt w u l) (h1 : W.length + l.length ≤ 400) :
    Calls Try.prog 3 #[v, u] w fun e w' => e = .returned (.bool true) ∧ Below w.heap.size w w' := by
  have hneq := eqv_eql
  have hgrd := eqv_guard
  have hself := clEq_self
  have HV := Lib.hid hv
  have HU := Lib.hid hu
  obtain ⟨ao, b, off, cap, rfl, hl2, hm2, _, hao, hcw⟩ := hv
  obtain ⟨ao2, cap2, rfl, hl3, hm3, hcu⟩ := hu.cells
  have Hcu := Lib.hid hcu
  have g1 : ¬ ((W.length : Int) + l.length) > 400 := by omega
  clear hu hcu hao hcw
  go_enter Try.func3, Try.ntmps3
  go_wp2_with fail
  refine (awake_any w).mono ?_
  rintro e w1 ⟨rfl, hb1⟩
  have HB1 := Lib.hid hb1
  clear hb1
  go_wp2_with fail
  refine (far_New w1 _ W (HV.out.later HB1.out) (by omega)).mono ?_
  rintro e w2 ⟨a, rfl, hFa, hb2⟩
  have HB2 := Lib.hid (HB1.out.trans (hb2.mono HB1.out.size))
  obtain ⟨Ha, hHa⟩ : ∃ Ha, Ha = (fun k => w1.heap.size ≤ k ∧ k < w2.heap.size) := ⟨_, rfl⟩
  rw [← hHa] at hFa
  have HFa := Lib.hid hFa
  have HHa : Hid (∀ k, Ha k → w.heap.size ≤ k ∧ k < w2.heap.size) := Lib.hid (fun k hk => by rw [hHa] at hk; exact ⟨Nat.le_trans HB1.out.size hk.1, hk.2⟩)
  clear hFa hHa hb2
  go_wp2_with fail
  refine (far_New w2 _ W (HV.out.later HB2.out) (by omega)).mono ?_
  rintro e w3 ⟨c, rfl, hFb, hb3⟩
  have HB3 := Lib.hid (HB2.out.trans (hb3.mono HB2.out.size))
  obtain ⟨Hb, hHb⟩ : ∃ Hb, Hb = (fun k => w2.heap.size ≤ k ∧ k < w3.heap.size) := ⟨_, rfl⟩
  rw [← hHb] at hFb
  have HM3 : Hid (Most1 Ha Hb w w3 a c W []) := Lib.hid ⟨HFa.out.later hb3, hFb, HB3.out⟩
  have HHb : Hid (∀ k, Hb k → w2.heap.size ≤ k) := Lib.hid (fun k hk => by rw [hHb] at hk; exact hk.1)
  clear hFb hHb hb3
  go_wp2
  go_loopw [7, 8] (fun t i wr => ∃ k : Nat, k ≤ l.length ∧ i = .int .i64 k ∧ t = .int .i64 (maxM (missed W (l.take k))) ∧ (∀ q ∈ l.take k, 0 ≤ q.1) ∧ Most1 Ha Hb w wr a c W (missed W (l.take k))) (fun _ i _ => l.length - (intOf i).toNat)
  case atStart => exact ⟨0, by omega, rfl, rfl, fun q hq => by simp at hq, HM3.out⟩
  case round =>
    obtain ⟨k, hk, rfl, rfl, hpos, hM⟩ := hrel
    have HM := Lib.hid hM
    have HP := Lib.hid hpos
    clear hM hpos HM3 HFa
    by_cases hlt : k < l.length
    · obtain ⟨b2, off2, rfl, hbl2, d0, d1, d2, d3, d4⟩ := Hcu.out k hlt
      have hrng := HU.out.2 l[k] (List.getElem_mem _)
      obtain ⟨q, hq⟩ : ∃ q, q = l[k] := ⟨_, rfl⟩
      have HQ := Lib.hid hq
      rw [← hq] at d0 d1 d2 d3 d4 hrng
      have hbel := HM.out.bel
      have hd := Lib.hid (And.intro (cell_later hbel d0) (And.intro (cell_later hbel d1) (And.intro (cell_later hbel d2) (And.intro (cell_later hbel d3) (cell_later hbel d4)))))
      clear hq hbel d0 d1 d2 d3 d4
      obtain ⟨d0, d1, d2, d3, d4⟩ := hd.out
      have hlI : (k : Int) < l.length := by omega
      by_cases hr : q.1 < 0 ∨ 4611686018427387904 < q.1
      · rcases hr with hr | hr
        · have hr' : q.1 < 0 := hr
          go_wp2
          go_ret
          exact ⟨rfl, HM.out.bel.alloc HM.out.bel.size _⟩
        · have hr1 : ¬ q.1 < 0 := by omega
          have hr' : q.1 > 4611686018427387904 := hr
          go_wp2
          go_ret
          exact ⟨rfl, HM.out.bel.alloc HM.out.bel.size _⟩
      · have hr1 : ¬ q.1 < 0 := fun h => hr (.inl h)
        have hr2 : ¬ q.1 > 4611686018427387904 := fun h => hr (.inr h)
        have h0 : 0 ≤ q.1 := by omega
        clear hr
        go_upto_region 13 with (fail)
        have hxl : ¬ Ha wr.heap.size := fun h => by have := HHa.out _ h; have := HB2.out.size; have := HM.out.fa.1 _ h; omega
        have hAB : ∀ k, Hb k → ¬ Ha k := fun k hk h => by have := HHa.out k h; have := HHb.out k hk; omega
        have hstart : Asked Ha Hb w (wr.alloc (askO q)) a c wr.heap.size W (missed W (l.take k)) q := ⟨⟨HM.out.fa.later ((Below.refl _ _).alloc (Nat.le_refl _) _), HM.out.fb.later ((Below.refl _ _).alloc (Nat.le_refl _) _), HM.out.bel.alloc HM.out.bel.size _⟩, heap_alloc_new _ _⟩
        have HX := Lib.hid hxl
        have HAB := Lib.hid hAB
        have HST := Lib.hid hstart
        have hset : ∀ w1 M, Asked Ha Hb w w1 a c wr.heap.size W M q → Calls Try.prog 10 #[.pointer (some ⟨a, 0, none⟩), .agg #[.int .u64 (word q.2 0), .int .u64 (word q.2 1), .int .u64 (word q.2 2), .int .u64 (word q.2 3)], .int .i64 q.1] w1 fun e w' => e = .returned (.bool (thereB W q.2 q.1)) ∧ Asked Ha Hb w w' a c wr.heap.size W (if thereB W q.2 q.1 then M else M ++ [q]) q := by
          intro w1 M hA
          have hs := far_Set w1 q.2 q.1 hA.most.fa
          unfold clv clc at hs
          refine hs.mono ?_
          rintro e w' ⟨rfl, hF, hK⟩
          exact ⟨rfl, hA.set h0 hF hK (fun k hk => (HHa.out k hk).1) HAB.out HX.out⟩
        have hthe : ∀ w1 M, Asked Ha Hb w w1 a c wr.heap.size W M q → Calls Try.prog 11 #[.slice ao W.length cap, .agg #[.int .u64 (word q.2 0), .int .u64 (word q.2 1), .int .u64 (word q.2 2), .int .u64 (word q.2 3), .int .i64 q.1]] w1 fun e w' => e = .returned (.bool (thereB W q.2 q.1)) ∧ Asked Ha Hb w w' a c wr.heap.size W M q := by
          intro w1 M hA
          refine (law_there w1 _ W q.2 q.1 (HV.out.later hA.most.bel) h0).mono ?_
          rintro e w' ⟨rfl, hb⟩
          exact ⟨rfl, hA.later hb⟩
        have HSet := Lib.hid hset
        have HThe := Lib.hid hthe
        clear hxl hAB hstart hset hthe
        go_cut [52] (fun x w1 => x = .bool false ∧ Asked Ha Hb w w1 a c wr.heap.size W (if thereB W q.2 q.1 then missed W (l.take k) else missed W (l.take k) ++ [q]) q)
        case first =>
          refine gen_world (S := fun w0 => Asked Ha Hb w w0 a c wr.heap.size W (missed W (l.take k)) q) HST.out (fun w0 hA0 => ?_)
          obtain ⟨x0, x1, x2, x3, x4⟩ := askO_cells hA0.box
          have HA0 := Lib.hid hA0
          clear hA0 HST
          go_region_with (first
            | (go_at_call 10; refine (HSet.out _ _ (by first | exact hA1 | exact hA1.later (by repeat (first | exact Below.refl _ _ | refine Below.drew ?_)) | exact HA0.out | exact HA0.out.later (by repeat (first | exact Below.refl _ _ | refine Below.drew ?_)))).mono ?_; rintro e ws ⟨rfl, hA1⟩; obtain ⟨y0, y1, y2, y3, y4⟩ := askO_cells hA1.box)
            | (go_at_call 11; refine (HThe.out _ _ (by first | exact hA1 | exact hA1.later (by repeat (first | exact Below.refl _ _ | refine Below.drew ?_)) | exact HA0.out | exact HA0.out.later (by repeat (first | exact Below.refl _ _ | refine Below.drew ?_)))).mono ?_; rintro e ws ⟨rfl, hA1⟩; obtain ⟨y0, y1, y2, y3, y4⟩ := askO_cells hA1.box))
          all_goals go_wp2_with fail
          all_goals go_meet
          all_goals first | exact ⟨rfl, hA1⟩ | exact ⟨rfl, hA1.later (Below.refl _ _).drew⟩
        case rest =>
          obtain ⟨rfl, hA2⟩ := hcut
          obtain ⟨w5, rfl⟩ : ∃ w5 : World, w5 = wc := ⟨_, rfl⟩
          obtain ⟨x0, x1, x2, x3, x4⟩ := askO_cells hA2.box
          have HA2 := Lib.hid hA2
          clear hA2
          go_wp2_with fail
          refine (HThe.out _ _ HA2.out).mono ?_
          rintro e w6 ⟨rfl, hA3⟩
          obtain ⟨y0, y1, y2, y3, y4⟩ := askO_cells hA3.box
          have HA3 := Lib.hid hA3
          clear hA3
          have hmt := missed_take W l hlt
          rw [← HQ.out] at hmt
          have hpos : ∀ q' ∈ l.take (k + 1), 0 ≤ q'.1 := fun q' hq' => by
            rw [List.take_succ_eq_append_getElem hlt, ← HQ.out] at hq'
            rcases List.mem_append.1 hq' with h | h
            · exact HP.out q' h
            · simp only [List.mem_singleton] at h; subst h; exact h0
          have HPos := Lib.hid hpos
          clear hpos
          cases hth : thereB W q.2 q.1
          · simp only [hth, Bool.false_eq_true, if_false] at hmt
            have HMt := Lib.hid hmt
            have HTh := Lib.hid hth
            clear hmt hth
            go_wp2_with fail
            go_roundw
            case rel =>
              have hm := HA3.out.most
              rw [HTh.out] at hm
              simp only [Bool.false_eq_true, if_false] at hm
              refine ⟨k + 1, by omega, by go_num, ?_, HPos.out, ?_⟩
              · rw [HMt.out, maxM_snoc]
                have hmax : (if maxM (missed W (l.take k)) < q.1 then q.1 else maxM (missed W (l.take k))) = max (maxM (missed W (l.take k))) q.1 := by split <;> omega
                rw [hmax]
              · rw [HMt.out]; exact hm
            case measure => simp [intOf] <;> omega
          · simp only [hth, if_true] at hmt
            have HMt := Lib.hid hmt
            have HTh := Lib.hid hth
            clear hmt hth
            go_wp2_with fail
            go_roundw
            case rel =>
              have hm := HA3.out.most
              rw [HTh.out] at hm
              simp only [if_true] at hm
              refine ⟨k + 1, by omega, by go_num, ?_, HPos.out, ?_⟩
              · rw [HMt.out]
              · rw [HMt.out]; exact hm
            case measure => simp [intOf] <;> omega
    · obtain rfl : k = l.length := by omega
      rw [List.take_length] at HM HP
      have hkl : ¬ (l.length : Int) < l.length := by omega
      have hnd : ¬ l.length < l.length := by omega
      obtain ⟨M, hMd⟩ : ∃ M, M = missed W l := ⟨_, rfl⟩
      have HMd := Lib.hid hMd
      rw [List.take_length, ← hMd]
      rw [← hMd] at HM
      obtain ⟨T, hTd⟩ : ∃ T, T = maxM M := ⟨_, rfl⟩
      have HTd := Lib.hid hTd
      rw [← hTd]
      clear hMd hTd
      have hxa : ¬ Ha wr.heap.size := fun h => by have := HM.out.fa.1 _ h; omega
      have hxb : ¬ Hb wr.heap.size := fun h => by have := HM.out.fb.1 _ h; omega
      have HXa := Lib.hid hxa
      have HXb := Lib.hid hxb
      have HX0 := Lib.hid HM.out.bel.size
      have HBA : Hid (∀ k, Ha k → ¬ Hb k) := Lib.hid (fun k hk h => by have := HHa.out k hk; have := HHb.out k h; omega)
      clear hxa hxb
      obtain ⟨x, hxd⟩ : ∃ x, x = wr.heap.size := ⟨_, rfl⟩
      have HXd := Lib.hid hxd
      rw [← hxd] at HXa HXb HX0
      have hstart : Most2 Ha Hb w (wr.alloc (.cells #[.int .u64 0, .int .u64 0, .int .u64 0, .int .u64 0] 29 (0, 0))) a c x W M [] clNone := ⟨HM.out.fa.later ((Below.refl _ _).alloc (Nat.le_refl _) _), HM.out.fb.later ((Below.refl _ _).alloc (Nat.le_refl _) _), HM.out.bel.alloc HM.out.bel.size _, by rw [hxd, clc_none]; exact heap_alloc_new _ _⟩
      have HST := Lib.hid hstart
      clear hstart hxd
      obtain ⟨wq, hwq⟩ : ∃ wq : World, wq = wr := ⟨_, rfl⟩
      go_wp2
      rw [← HXd.out]
      go_loopw [11, 12] (fun i _ w9 => ∃ n : Nat, n ≤ l.length ∧ i = .int .i64 ((n : Int) - 1) ∧ Most2 Ha Hb w w9 a c x W M (missed W (l.drop n)).reverse (hopM (missed W (l.drop n)) T)) (fun i _ _ => (intOf i + 1).toNat)
      case atStart =>
        refine ⟨l.length, Nat.le_refl _, by rfl, ?_⟩
        rw [List.drop_length]
        have := HST.out
        rw [hwq.symm] at this ⊢
        exact this
      case round =>
        obtain ⟨n, hn, rfl, hM2⟩ := hrel
        have HM2 := Lib.hid hM2
        clear hM2 HST
        cases n with
        | zero =>
          have hlt0 : ¬ ((0 : Nat) : Int) - 1 ≥ 0 := by omega
          have hN : (missed W (l.drop 0)) = M := by rw [List.drop_zero, HMd.out]
          have hMp : ∀ q ∈ M, 0 ≤ q.1 := by rw [HMd.out]; exact missed_pos HP.out
          have hs1 : sumP M = (T, hopM M T) := by rw [sumP_eq M hMp, ← HTd.out]
          have hs2 : sumP M.reverse = (T, hopM M T) := by rw [sumP_eq _ (fun q hq => hMp q (List.mem_reverse.1 hq)), maxM_reverse, hopM_reverse, ← HTd.out]
          obtain ⟨fa, fb, bel, box⟩ := HM2.out
          rw [hN] at fb box
          rw [hs1] at fa
          rw [hs2] at fb
          obtain ⟨h, hh⟩ : ∃ h, h = hopM M T := ⟨_, rfl⟩
          rw [← hh] at fa fb box
          have HFin : Hid (Fin2 Ha Hb w wr a c x W T h) := Lib.hid ⟨fa, fb, bel, box⟩
          have FA := Lib.hid (fun w1 (H : Fin2 Ha Hb w w1 a c x W T h) => (far_Far w1 H.fa).mono (R' := fun e w' => e = .returned (.int .i64 T) ∧ Fin2 Ha Hb w w' a c x W T h) (fun e w' he => ⟨he.1, H.later he.2⟩))
          have FB := Lib.hid (fun w1 (H : Fin2 Ha Hb w w1 a c x W T h) => (far_Far w1 H.fb).mono (R' := fun e w' => e = .returned (.int .i64 T) ∧ Fin2 Ha Hb w w' a c x W T h) (fun e w' he => ⟨he.1, H.later he.2⟩))
          have HOA := Lib.hid (fun w1 (H : Fin2 Ha Hb w w1 a c x W T h) => (far_Hoped w1 H.fa).mono (R' := fun e w' => e = .returned (.agg #[.int .u64 (word h 0), .int .u64 (word h 1), .int .u64 (word h 2), .int .u64 (word h 3)]) ∧ Fin2 Ha Hb w w' a c x W T h) (fun e w' he => ⟨he.1, H.later he.2⟩))
          have HOB := Lib.hid (fun w1 (H : Fin2 Ha Hb w w1 a c x W T h) => (far_Hoped w1 H.fb).mono (R' := fun e w' => e = .returned (.agg #[.int .u64 (word h 0), .int .u64 (word h 1), .int .u64 (word h 2), .int .u64 (word h 3)]) ∧ Fin2 Ha Hb w w' a c x W T h) (fun e w' he => ⟨he.1, H.later he.2⟩))
          obtain ⟨⟨r0, _⟩, ⟨r1, _⟩, ⟨r2, _⟩, ⟨r3, _⟩⟩ := four_cells box
          clear fa fb bel box hs1 hs2 hN hMp hh
          have hqc := eqc_10000
          clear hneq hgrd hself
          go_wp2_with fail
          go_region_with (first
            | (go_at_call_of 12 a; refine (FA.out _ (by first | exact hA1 | exact hA1.later (by repeat (first | exact Below.refl _ _ | refine Below.drew ?_)) | exact HFin.out | exact HFin.out.later (by repeat (first | exact Below.refl _ _ | refine Below.drew ?_)))).mono ?_; rintro e ws ⟨rfl, hA1⟩; obtain ⟨⟨r0, _⟩, ⟨r1, _⟩, ⟨r2, _⟩, ⟨r3, _⟩⟩ := four_cells hA1.box)
            | (go_at_call_of 12 c; refine (FB.out _ (by first | exact hA1 | exact hA1.later (by repeat (first | exact Below.refl _ _ | refine Below.drew ?_)) | exact HFin.out | exact HFin.out.later (by repeat (first | exact Below.refl _ _ | refine Below.drew ?_)))).mono ?_; rintro e ws ⟨rfl, hA1⟩; obtain ⟨⟨r0, _⟩, ⟨r1, _⟩, ⟨r2, _⟩, ⟨r3, _⟩⟩ := four_cells hA1.box)
            | (go_at_call_of 13 a; refine (HOA.out _ (by first | exact hA1 | exact hA1.later (by repeat (first | exact Below.refl _ _ | refine Below.drew ?_)) | exact HFin.out | exact HFin.out.later (by repeat (first | exact Below.refl _ _ | refine Below.drew ?_)))).mono ?_; rintro e ws ⟨rfl, hA1⟩; obtain ⟨⟨r0, _⟩, ⟨r1, _⟩, ⟨r2, _⟩, ⟨r3, _⟩⟩ := four_cells hA1.box)
            | (go_at_call_of 13 c; refine (HOB.out _ (by first | exact hA1 | exact hA1.later (by repeat (first | exact Below.refl _ _ | refine Below.drew ?_)) | exact HFin.out | exact HFin.out.later (by repeat (first | exact Below.refl _ _ | refine Below.drew ?_)))).mono ?_; rintro e ws ⟨rfl, hA1⟩; obtain ⟨⟨r0, _⟩, ⟨r1, _⟩, ⟨r2, _⟩, ⟨r3, _⟩⟩ := four_cells hA1.box))
          all_goals go_wp2_with fail
          all_goals go_ret
          all_goals first | exact ⟨rfl, hA1.bel⟩ | exact ⟨rfl, hA1.bel.drew⟩
        | succ m =>
          have hmI : (((m + 1 : Nat) : Int) - 1) = (m : Int) := by omega
          rw [hmI]
          have hml : m < l.length := by omega
          have hmlI : (m : Int) < l.length := by omega
          obtain ⟨b2, off2, rfl, hbl2, d0, d1, d2, d3, d4⟩ := Hcu.out m hml
          obtain ⟨q, hq⟩ : ∃ q, q = l[m] := ⟨_, rfl⟩
          have HQ := Lib.hid hq
          have h0 : 0 ≤ q.1 := by rw [hq]; exact HP.out _ (List.getElem_mem _)
          rw [← hq] at d0 d1 d2 d3 d4
          have hd := Lib.hid (fun w1 (hb : Below w.heap.size w w1) => And.intro (cell_later hb d0) (And.intro (cell_later hb d1) (And.intro (cell_later hb d2) (And.intro (cell_later hb d3) (cell_later hb d4)))))
          clear hq d0 d1 d2 d3 d4
          have hset : ∀ w1 N h, Most2 Ha Hb w w1 a c x W M N h → Calls Try.prog 10 #[.pointer (some ⟨c, 0, none⟩), .agg #[.int .u64 (word q.2 0), .int .u64 (word q.2 1), .int .u64 (word q.2 2), .int .u64 (word q.2 3)], .int .i64 q.1] w1 fun e w' => e = .returned (.bool (thereB W q.2 q.1)) ∧ Most2 Ha Hb w w' a c x W M (if thereB W q.2 q.1 then N else N ++ [q]) h := by
            intro w1 N h hA
            have hs := far_Set w1 q.2 q.1 hA.fb
            unfold clv clc at hs
            refine hs.mono ?_
            rintro e w' ⟨rfl, hF, hK⟩
            exact ⟨rfl, hA.set h0 hF hK (fun k hk => by have := HHb.out k hk; have := HB2.out.size; omega) HBA.out HXb.out⟩
          have hthe : ∀ w1 N h, Most2 Ha Hb w w1 a c x W M N h → Calls Try.prog 11 #[.slice ao W.length cap, .agg #[.int .u64 (word q.2 0), .int .u64 (word q.2 1), .int .u64 (word q.2 2), .int .u64 (word q.2 3), .int .i64 q.1]] w1 fun e w' => e = .returned (.bool (thereB W q.2 q.1)) ∧ Most2 Ha Hb w w' a c x W M N h := by
            intro w1 N h hA
            refine (law_there w1 _ W q.2 q.1 (HV.out.later hA.bel) h0).mono ?_
            rintro e w' ⟨rfl, hb⟩
            exact ⟨rfl, hA.later hb⟩
          have HSet := Lib.hid hset
          have HThe := Lib.hid hthe
          have hmd := missed_drop W l hml
          rw [← HQ.out] at hmd
          have HMD := Lib.hid hmd
          clear hset hthe hmd
          go_upto_region 21 with (fail)
          go_cut [79] (fun _ w1 => Most2 Ha Hb w w1 a c x W M (missed W (l.drop m)).reverse (hopM (missed W (l.drop (m + 1))) T))
          case first =>
            refine gen_world (S := fun w0 => Most2 Ha Hb w w0 a c x W M (missed W (l.drop (m + 1))).reverse (hopM (missed W (l.drop (m + 1))) T)) HM2.out (fun w0 hA0 => ?_)
            obtain ⟨d0, d1, d2, d3, d4⟩ := hd.out w0 hA0.bel
            have HA0 := Lib.hid hA0
            clear hA0
            go_region_with (go_at_call 10; refine (HSet.out _ _ _ (by first | exact HA0.out | exact HA0.out.later (by repeat (first | exact Below.refl _ _ | refine Below.drew ?_)))).mono ?_; rintro e ws ⟨rfl, hA1⟩)
            all_goals go_wp2_with fail
            all_goals go_meet
            all_goals
              have hr : (missed W (l.drop m)).reverse = if thereB W q.2 q.1 then (missed W (l.drop (m + 1))).reverse else (missed W (l.drop (m + 1))).reverse ++ [q] := by
                rw [HMD.out]
                split <;> simp
              rw [hr]
              first | exact hA1 | exact hA1.later (Below.refl _ _).drew
          case rest =>
            obtain ⟨wp, rfl⟩ : ∃ wp : World, wp = wc := ⟨_, rfl⟩
            have HM3 := Lib.hid hcut
            clear hcut
            by_cases hc : q.1 = T ∧ thereB W q.2 q.1 = false
            · obtain ⟨hc1, hc2⟩ := hc
              have hqT : (q.1 == T) = true := by simp [hc1]
              have HC1 := Lib.hid hc1
              have HC2 := Lib.hid hc2
              clear hc1 hc2
              go_wp2_with fail
              go_loopw [12] (fun kk w9 => ∃ j : Nat, j ≤ 4 ∧ kk = .int .i64 j ∧ Most2 Ha Hb w w9 a c x W M (missed W (l.drop m)).reverse (clOrTo (hopM (missed W (l.drop (m + 1))) T) q.2 j)) (fun kk _ => 4 - (intOf kk).toNat)
              case atStart => exact ⟨0, by omega, rfl, by rw [clOrTo_zero]; exact HM3.out⟩
              case round =>
                obtain ⟨j, hj, rfl, hM4⟩ := hrel
                by_cases hj4 : j < 4
                · have hjI : (j : Int) < 4 := by omega
                  obtain ⟨d0, d1, d2, d3, d4⟩ := hd.out _ hM4.bel
                  have HM4 := Lib.hid hM4
                  clear hM4
                  go_wp2_with fail
                  refine (HThe.out _ _ _ HM4.out).mono ?_
                  rintro e w6 ⟨rfl, hM5⟩
                  rw [HC2.out]
                  obtain ⟨d0, d1, d2, d3, d4⟩ := hd.out _ hM5.bel
                  obtain ⟨hc, hf⟩ := block_cell' hM5.box j
                  rw [clc_get _ hj4] at hc
                  have hwk : word (clOrTo (hopM (missed W (l.drop (m + 1))) T) q.2 j) j = word (hopM (missed W (l.drop (m + 1))) T) j := word_congr fun i hi => by unfold clOrTo; rw [if_neg (by omega)]
                  rw [hwk] at hc
                  have hdj := asks_cell d0 d1 d2 d3 j hj4
                  have HM5 := Lib.hid hM5
                  clear hM5 hwk
                  go_wp2_with fail
                  go_still_tail 13, (by kernel_rfl)
                  repeat still_step
                  try refine wpStill_nil ?_
                  go_wp2
                  go_roundw
                  case rel =>
                    refine ⟨j + 1, by omega, by go_num, ?_⟩
                    have := HM5.out.store (k := j) (h' := clOrTo (hopM (missed W (l.drop (m + 1))) T) q.2 (j + 1)) HX0.out HXa.out HXb.out (or_cells _ q.2 hj4)
                    exact this.later (Below.refl _ _).drew
                  case measure => simp [intOf] <;> omega
                · obtain rfl : j = 4 := by omega
                  have HM4 := Lib.hid hM4
                  clear hM4
                  go_wp2_with fail
                  go_roundw
                  case rel =>
                    refine ⟨m, by omega, by go_num, ?_⟩
                    have he : hopM (missed W (l.drop m)) T = clOr (hopM (missed W (l.drop (m + 1))) T) q.2 := by
                      rw [HMD.out, HC2.out]
                      simp only [Bool.false_eq_true, if_false]
                      rw [hopM_cons, if_pos HC1.out]
                    rw [he]
                    obtain ⟨fa, fb, bel, box⟩ := HM4.out
                    exact ⟨fa, fb, bel, by rw [box, clOrTo_four]⟩
                  case measure => simp [intOf] <;> omega
            · have hes : hopM (missed W (l.drop m)) T = hopM (missed W (l.drop (m + 1))) T := by
                rw [HMD.out]
                by_cases ht : thereB W q.2 q.1 = true
                · rw [if_pos ht]
                · rw [if_neg ht, hopM_cons, if_neg (fun h => hc ⟨h, by simpa using ht⟩)]
              have HES := Lib.hid hes
              have HC := Lib.hid hc
              clear hes hc
              go_wp2_with fail
              go_loopw [12] (fun kk w9 => kk = .int .i64 0 ∧ Most2 Ha Hb w w9 a c x W M (missed W (l.drop m)).reverse (hopM (missed W (l.drop (m + 1))) T)) (fun _ _ => 0)
              case atStart => exact ⟨rfl, HM3.out⟩
              case round =>
                obtain ⟨rfl, hM4⟩ := hrel
                obtain ⟨d0, d1, d2, d3, d4⟩ := hd.out _ hM4.bel
                have HM4 := Lib.hid hM4
                clear hM4
                by_cases hqT' : q.1 = T
                · have hqT : (q.1 == T) = true := by simp [hqT']
                  have htt : thereB W q.2 q.1 = true := by
                    have := HC.out
                    cases h : thereB W q.2 q.1
                    · exact absurd ⟨hqT', h⟩ this
                    · rfl
                  have HTT := Lib.hid htt
                  clear htt hqT'
                  go_wp2_with fail
                  refine (HThe.out _ _ _ HM4.out).mono ?_
                  rintro e w6 ⟨rfl, hM5⟩
                  rw [HTT.out]
                  have HM5 := Lib.hid hM5
                  clear hM5
                  go_wp2_with fail
                  go_roundw
                  case rel => exact ⟨m, by omega, by go_num, by rw [HES.out]; exact HM5.out⟩
                  case measure => simp [intOf] <;> omega
                · have hqT : (q.1 == T) = false := by simp [hqT']
                  clear hqT'
                  go_wp2_with fail
                  go_roundw
                  case rel => exact ⟨m, by omega, by go_num, by rw [HES.out]; exact HM4.out⟩
                  case measure => simp [intOf] <;> omega
end Go.Proofs.Ytfhgmnlhmfnckaa
