/-
  mean: a call.
-/
import Derived.Test.YtkimkghldilliaaGreatMnH
namespace Go.Proofs.YtkimkghldilliaaGreat
open Go.RowKit Go.Lib

/-- what growing tells. -/
def GrowC (C : Cx) (f : Nat) : Prop := ∀ (rule lev : Int) (p : Nat) (ru : Ru) (F : Live) (st : Ss) (r : Fo) (st' : Ss) (w : World), TrS C F st w → LiveOk C F → p ≤ C.W.length → 0 ≤ rule → C.R[rule.toNat]? = some ru → 0 ≤ lev ∧ lev ≤ 99 → (∀ x ∈ F, x.1 ≠ (rule, (p : Int))) → st.left ≤ f →
  freshE (ev false C.R C.N C.W f) false (lvF F) rule lev p ru.body.toNat (f + 1) st = some (r, st') → Calls Tryz.prog 25 #[.pointer (some ⟨C.tb, 0, none⟩), .int .i64 rule, .int .i64 lev, .int .i64 p] w (Post C F r st' w)
theorem w64_pair {r : Int} {p : Nat} (h : 0 ≤ r ∧ r < 32) (hp : p ≤ 2048) : W64 (r, (p : Int)) := by
  unfold W64 Lit.wf
  simp [IntKind.min, IntKind.max, IntKind.signed, IntKind.bits]
  omega
def ReadQ (lk : Option (Option Sd)) (lev en st : Int) (t : List Tw) : Prop :=
  match lk with
  | none => st = 1
  | some none => st = 2
  | some (some sd) => if sd.lev ≤ lev then st = 3 ∧ en = sd.en ∧ t = sd.tree else st = 2
/-- what is read. -/
def ReadR (F : Live) (k : Pr) (lev : Int) (e : Ending) (w w' : World) : Prop := Below w.heap.size w w' ∧ ∃ en l v st t, e = .returned (.tuple #[.agg #[.int .i64 en, .int .i64 l, v], .int .i64 st]) ∧ TwIn w' v t ∧ ReadQ ((lvF F).lookup k) lev en st t
theorem read_any {C : Cx} (hC : CxOk C) {F : Live} (hL : LiveOk C F) {B s m : Nat} {sv : Value} {r : Int} {p : Nat} (hr : 0 ≤ r ∧ r < 32) (hp : p ≤ 2048) (lev : Int) (w : World) (h : StIs B w s m sv F) :
    Calls Tryz.prog 158 #[.pointer (some ⟨s, 0, none⟩), .int .i64 r, .int .i64 p, .int .i64 lev] w fun e w' => ReadR F (r, (p : Int)) lev e w w' := by
  cases hl : (lvF F).lookup (r, (p : Int)) with
  | none =>
    refine (st_absent (p := (r, (p : Int))) lev w h (lookup_none hl) (w64_pair hr hp)).mono ?_
    rintro e w' ⟨rfl, hb⟩
    exact ⟨hb, _, _, _, _, [], rfl, TwIn.nil _, by rw [hl]; rfl⟩
  | some o =>
    obtain ⟨fd, hm, hs⟩ := lookup_some hl
    have hl2 : fd.tree.length ≤ 1000000 := hL.short _ hm
    cases o with
    | none =>
      have hi : fd.is = false := by
        unfold sdOf at hs
        split at hs
        · cases hs
        · rename_i h; simpa using h
      refine (st_fails (p := (r, (p : Int))) lev w h hm hl2 (fun h => by rw [hi] at h; cases h.1)).mono ?_
      rintro e w' ⟨rfl, hb⟩
      exact ⟨hb, _, _, _, _, [], rfl, TwIn.nil _, by rw [hl]; rfl⟩
    | some sd =>
      have hi : fd.is = true := by
        unfold sdOf at hs
        split at hs
        · assumption
        · cases hs
      have hsd : sd = ⟨fd.en.toNat, fd.lev, fd.tree⟩ := by
        unfold sdOf at hs
        rw [if_pos hi] at hs
        exact (Option.some.inj hs).symm
      subst hsd
      clear hs
      by_cases hle : fd.lev ≤ lev
      · refine (st_gives (p := (r, (p : Int))) lev w h hm hl2 ⟨hi, hle⟩).mono ?_
        rintro e w' ⟨⟨v', rfl, hv⟩, hb⟩
        refine ⟨hb, _, _, _, _, fd.tree, rfl, hv, ?_⟩
        rw [hl]
        show if fd.lev ≤ lev then _ else _
        rw [if_pos hle]
        exact ⟨rfl, hL.num _ hm hi, rfl⟩
      · refine (st_fails (p := (r, (p : Int))) lev w h hm hl2 (fun h => hle h.2)).mono ?_
        rintro e w' ⟨rfl, hb⟩
        refine ⟨hb, _, _, _, _, [], rfl, TwIn.nil _, ?_⟩
        rw [hl]
        show if fd.lev ≤ lev then _ else _
        rw [if_neg hle]
set_option maxRecDepth 100000 in
set_option maxHeartbeats 8000000 in
theorem way_call {C : Cx} (hC : CxOk C) {f : Nat} {x : Nd} (hx : x ∈ C.N) (hkd : x.kind = 5) (hM : MatchC C f) (hGr : GrowC C f) : WayC C f x := by
  intro p F st r st' w h hL hp hl he
  unfold nodeE at he
  rw [if_neg (by rw [hkd]; decide), if_neg (by rw [hkd]; decide), if_neg (by rw [hkd]; decide), if_pos hkd] at he
  rw [show wayF x.kind = 129 from by unfold wayF; rw [hkd]; rfl]
  have H := Lib.hid h
  have HC := Lib.hid hC
  have HL := Lib.hid hL
  have HM := Lib.hid hM
  have HE := Lib.hid he
  have hxw := hC.gr.wf x hx
  have hW := hC.hW
  have hcl := hC.gv.call x hx hkd
  have hfew2 := hC.gv.few
  obtain ⟨⟨ra, rc, hrv⟩, ⟨na, nc, hnv⟩, ⟨wa, wc, hwv⟩⟩ := hC.shape
  obtain ⟨ka, kc, hkv⟩ := hxw.kv
  obtain ⟨tb, htb⟩ : ∃ tb, tb = C.tb := ⟨_, rfl⟩
  have HTb := Lib.hid htb
  rw [← htb]
  obtain ⟨wl, hwl⟩ : ∃ wl, wl = C.W.length := ⟨_, rfl⟩
  have HWl := Lib.hid hwl
  rw [← hwl] at hwv hp hW
  have HWv := Lib.hid hwv
  have HW2 := Lib.hid hC.hW
  obtain ⟨kind, c0, c1, c2, c3, text, rule, level, kids, kv⟩ := x
  simp only at hkv HE hcl hkd
  subst hkv
  unfold ndv
  simp only
  obtain ⟨kn, hkn⟩ : ∃ kn, kn = kids.length := ⟨_, rfl⟩
  have HKn := Lib.hid hkn
  rw [← hkn]
  clear hkn
  subst hkd
  obtain ⟨r1, r2, r3, r4⟩ := hcl
  have HRule := Lib.hid (show 0 ≤ rule ∧ rule < 32 from ⟨r1, by omega⟩)
  have HRule2 := Lib.hid (And.intro r1 r2)
  have HLev := Lib.hid (And.intro r3 r4)
  have HHC := Lib.hid hC
  have hpw : p ≤ C.W.length := by rw [← HWl.out]; exact hp
  have HPw := Lib.hid hpw
  clear h hC hL hM he hx hxw hrv hnv hwv htb hwl hfew2 r1 r2 r3 r4 hpw
  go_enter Tryz.func129, Tryz.ntmps129
  go_upto_region 1 with (fail)
  refine gen_world (S := fun u => Below w.heap.size w u ∧ u.heap[w.heap.size]? = some (.cells #[.int .i64 5, .int .u64 c0, .int .u64 c1, .int .u64 c2, .int .u64 c3, .string text, .int .i64 rule, .int .i64 level, .slice ka kn kc] 60 (0, 0)) ∧ u.heap[w.heap.size + 1]? = some (.cells #[.bool false, .int .i64 0, .int .i64 0, .int .i64 0, .slice none 0 0] 73 (0, 0))) (two_new w _ _) (fun u hu => ?_)
  obtain ⟨hb, h1, h2⟩ := hu
  have HB := Lib.hid hb
  have H1 := Lib.hid h1
  have H2 := Lib.hid h2
  obtain ⟨X, hX⟩ : ∃ X, X = w.heap.size := ⟨_, rfl⟩
  rw [← hX] at H1 H2 ⊢
  have HX := Lib.hid hX
  have HT := Lib.hid (H.out.later hb)
  have HK := Lib.hid (KeepT.ofBelow hb : KeepT C.w0.heap.size TTm true w u)
  clear hb h1 h2 hX
  obtain ⟨sv, hst⟩ := HT.out.sto
  have HSt := Lib.hid hst
  clear hst
  obtain ⟨ub, hub⟩ : ∃ ub, ub = u.heap.size := ⟨_, rfl⟩
  have HUb := Lib.hid hub
  have HUl := Lib.hid (Nat.le_of_eq hub)
  have hub2 : Below ub u u.drew := by rw [hub]; exact (Below.refl u.heap.size u).drew
  clear hub
  refine wp_region_held_drew (S := fun z => Below ub u z) (by kernel_rfl) hub2 (fun hS => ?_)
  refine wpAnyH_take (i := 0) (oi := ⟨_, _, _, _, _, _⟩) (v := ?v1) rfl (by kernel_rfl) (by kernel_rfl) (by kernel_rfl) (fun _ _ _ h => h) ?y1 hS ?_
  case y1 => first | (refine Or.inr ⟨by rfl, ?_⟩; with_reducible rfl) | (refine Or.inl ⟨by rfl, ?_⟩; intro wS hSw; rw [HUb.out] at hSw; obtain ⟨v0, v1, v2, v3, v4, v5, v6, v7, v8⟩ := nine_box ((hSw.block _ (lt_of_block H1.out)).trans H1.out); obtain ⟨-, -, -, -, -, -, t6⟩ := (HT.out.later hSw).cells; rw [← HTb.out] at t6; go_simp; try with_reducible rfl)
  simp only [Act.put, List.setIfInBounds_toArray, List.set_cons_zero, List.set_cons_succ]
  refine wpAnyH_take (i := 1) (oi := ⟨_, _, _, _, _, _⟩) (v := ?v2) rfl (by kernel_rfl) (by kernel_rfl) (by kernel_rfl) (fun _ _ _ h => h) ?y2 hS ?_
  case y2 => first | (refine Or.inr ⟨by rfl, ?_⟩; with_reducible rfl) | (refine Or.inl ⟨by rfl, ?_⟩; intro wS hSw; rw [HUb.out] at hSw; obtain ⟨v0, v1, v2, v3, v4, v5, v6, v7, v8⟩ := nine_box ((hSw.block _ (lt_of_block H1.out)).trans H1.out); obtain ⟨-, -, -, -, -, -, t6⟩ := (HT.out.later hSw).cells; rw [← HTb.out] at t6; go_simp; try with_reducible rfl)
  simp only [Act.put, List.setIfInBounds_toArray, List.set_cons_zero, List.set_cons_succ]
  refine wpAnyH_take (i := 2) (oi := ⟨_, _, _, _, _, _⟩) (v := ?v3) rfl (by kernel_rfl) (by kernel_rfl) (by kernel_rfl) (fun _ _ _ h => h) ?y3 hS ?_
  case y3 => first | (refine Or.inr ⟨by rfl, ?_⟩; with_reducible rfl) | (refine Or.inl ⟨by rfl, ?_⟩; intro wS hSw; rw [HUb.out] at hSw; obtain ⟨v0, v1, v2, v3, v4, v5, v6, v7, v8⟩ := nine_box ((hSw.block _ (lt_of_block H1.out)).trans H1.out); obtain ⟨-, -, -, -, -, -, t6⟩ := (HT.out.later hSw).cells; rw [← HTb.out] at t6; go_simp; try with_reducible rfl)
  simp only [Act.put, List.setIfInBounds_toArray, List.set_cons_zero, List.set_cons_succ]
  refine wpAnyH_take (i := 3) (oi := ⟨_, _, _, _, _, _⟩) (v := ?v4) rfl (by kernel_rfl) (by kernel_rfl) (by kernel_rfl) (fun _ _ _ h => h) ?y4 hS ?_
  case y4 => first | (refine Or.inr ⟨by rfl, ?_⟩; with_reducible rfl) | (refine Or.inl ⟨by rfl, ?_⟩; intro wS hSw; rw [HUb.out] at hSw; obtain ⟨v0, v1, v2, v3, v4, v5, v6, v7, v8⟩ := nine_box ((hSw.block _ (lt_of_block H1.out)).trans H1.out); obtain ⟨-, -, -, -, -, -, t6⟩ := (HT.out.later hSw).cells; rw [← HTb.out] at t6; go_simp; try with_reducible rfl)
  simp only [Act.put, List.setIfInBounds_toArray, List.set_cons_zero, List.set_cons_succ]
  refine wpAnyH_take (i := 4) (oi := ⟨_, _, _, _, _, _⟩) (v := ?v5) rfl (by kernel_rfl) (by kernel_rfl) (by kernel_rfl) (fun _ _ _ h => h) ?y5 hS ?_
  case y5 => first | (refine Or.inr ⟨by rfl, ?_⟩; with_reducible rfl) | (refine Or.inl ⟨by rfl, ?_⟩; intro wS hSw; rw [HUb.out] at hSw; obtain ⟨v0, v1, v2, v3, v4, v5, v6, v7, v8⟩ := nine_box ((hSw.block _ (lt_of_block H1.out)).trans H1.out); obtain ⟨-, -, -, -, -, -, t6⟩ := (HT.out.later hSw).cells; rw [← HTb.out] at t6; go_simp; try with_reducible rfl)
  simp only [Act.put, List.setIfInBounds_toArray, List.set_cons_zero, List.set_cons_succ]
  refine wpAnyH_take (i := 5) (oi := ⟨_, _, _, _, _, _⟩) (v := ?v6) rfl (by kernel_rfl) (by kernel_rfl) (by kernel_rfl) (fun _ _ _ h => h) ?y6 hS ?_
  case y6 => first | (refine Or.inr ⟨by rfl, ?_⟩; with_reducible rfl) | (refine Or.inl ⟨by rfl, ?_⟩; intro wS hSw; rw [HUb.out] at hSw; obtain ⟨v0, v1, v2, v3, v4, v5, v6, v7, v8⟩ := nine_box ((hSw.block _ (lt_of_block H1.out)).trans H1.out); obtain ⟨-, -, -, -, -, -, t6⟩ := (HT.out.later hSw).cells; rw [← HTb.out] at t6; go_simp; try with_reducible rfl)
  simp only [Act.put, List.setIfInBounds_toArray, List.set_cons_zero, List.set_cons_succ]
  refine wpAnyH_take (i := 6) (oi := ⟨_, _, _, _, _, _⟩) (v := ?v7) rfl (by kernel_rfl) (by kernel_rfl) (by kernel_rfl) (fun _ _ _ h => h) ?y7 hS ?_
  case y7 => first | (refine Or.inr ⟨by rfl, ?_⟩; with_reducible rfl) | (refine Or.inl ⟨by rfl, ?_⟩; intro wS hSw; rw [HUb.out] at hSw; obtain ⟨v0, v1, v2, v3, v4, v5, v6, v7, v8⟩ := nine_box ((hSw.block _ (lt_of_block H1.out)).trans H1.out); obtain ⟨-, -, -, -, -, -, t6⟩ := (HT.out.later hSw).cells; rw [← HTb.out] at t6; go_simp; try with_reducible rfl)
  simp only [Act.put, List.setIfInBounds_toArray, List.set_cons_zero, List.set_cons_succ]
  refine wpAnyH_take (i := 7) (oi := ⟨_, _, _, _, _, _⟩) (v := ?v8) rfl (by kernel_rfl) (by kernel_rfl) (by kernel_rfl) (fun _ _ _ h => h) ?y8 hS ?_
  case y8 => first | (refine Or.inr ⟨by rfl, ?_⟩; with_reducible rfl) | (refine Or.inl ⟨by rfl, ?_⟩; intro wS hSw; rw [HUb.out] at hSw; obtain ⟨v0, v1, v2, v3, v4, v5, v6, v7, v8⟩ := nine_box ((hSw.block _ (lt_of_block H1.out)).trans H1.out); obtain ⟨-, -, -, -, -, -, t6⟩ := (HT.out.later hSw).cells; rw [← HTb.out] at t6; go_simp; try with_reducible rfl)
  simp only [Act.put, List.setIfInBounds_toArray, List.set_cons_zero, List.set_cons_succ]
  refine wpAnyH_take (i := 8) (oi := ⟨_, _, _, _, _, _⟩) (v := ?v9) rfl (by kernel_rfl) (by kernel_rfl) (by kernel_rfl) (fun _ _ _ h => h) ?y9 hS ?_
  case y9 => first | (refine Or.inr ⟨by rfl, ?_⟩; with_reducible rfl) | (refine Or.inl ⟨by rfl, ?_⟩; intro wS hSw; rw [HUb.out] at hSw; obtain ⟨v0, v1, v2, v3, v4, v5, v6, v7, v8⟩ := nine_box ((hSw.block _ (lt_of_block H1.out)).trans H1.out); obtain ⟨-, -, -, -, -, -, t6⟩ := (HT.out.later hSw).cells; rw [← HTb.out] at t6; go_simp; try with_reducible rfl)
  simp only [Act.put, List.setIfInBounds_toArray, List.set_cons_zero, List.set_cons_succ]
  have HRead := Lib.hid (fun z (hz : Below ub u z) => read_any HHC.out HL.out HRule.out (Nat.le_trans hp hW) level z (HSt.out.later (by rw [← HUb.out]; exact hz)))
  unfold ReadR at HRead
  obtain ⟨lk, hlk0⟩ : ∃ lk, lk = (lvF F).lookup (rule, (p : Int)) := ⟨_, rfl⟩
  rw [← hlk0] at HRead
  have HLk0 := Lib.hid hlk0
  clear hlk0
  apply cut_in
  · intro key
    refine wpAnyH_ready (rs := [9, 13]) (by kernel_rfl) (by simp) ?_
    refine AllReadyH.cons (o := ⟨_, _, _, _, _, _⟩) rfl (fun K hK => ?_) (AllReadyH.cons (o := ⟨_, _, _, _, _, _⟩) rfl (fun K hK => ?_) AllReadyH.nil)
    · skip
      go_simp
      refine (HRead.out _ hS).mono ?_
      rintro e z ⟨hb, en, l, v, sn, tr, rfl, hv, hrd⟩
      obtain ⟨fa, fc, rfl⟩ := hv.1.val
      have HV := Lib.hid hv
      have HRd := Lib.hid hrd
      obtain ⟨tn, htn⟩ : ∃ tn, tn = tr.length := ⟨_, rfl⟩
      rw [← htn] at HV ⊢
      clear htn hv hrd
      go_wp2_with fail
      have hSz := (hS).trans (hb.mono (Nat.le_trans HUl.out (hS).size))
      refine hK.out _ _ hSz (fun hS2 => ?_)
      clear hK K
      try simp only [Act.put, List.setIfInBounds_toArray, List.set_cons_zero, List.set_cons_succ]
      have hS := hSz
      refine wpAnyH_take (i := 10) (oi := ⟨_, _, _, _, _, _⟩) (v := ?v10) rfl (by kernel_rfl) (by kernel_rfl) (by kernel_rfl) (fun _ _ _ h => h) ?y10 hS ?_
      case y10 => first | (refine Or.inr ⟨by rfl, ?_⟩; with_reducible rfl) | (refine Or.inl ⟨by rfl, ?_⟩; intro wS hSw; rw [HUb.out] at hSw; obtain ⟨v0, v1, v2, v3, v4, v5, v6, v7, v8⟩ := nine_box ((hSw.block _ (lt_of_block H1.out)).trans H1.out); obtain ⟨-, -, -, -, -, -, t6⟩ := (HT.out.later hSw).cells; rw [← HTb.out] at t6; go_simp; try with_reducible rfl)
      simp only [Act.put, List.setIfInBounds_toArray, List.set_cons_zero, List.set_cons_succ]
      refine wpAnyH_take (i := 11) (oi := ⟨_, _, _, _, _, _⟩) (v := ?v11) rfl (by kernel_rfl) (by kernel_rfl) (by kernel_rfl) (fun _ _ _ h => h) ?y11 hS ?_
      case y11 => first | (refine Or.inr ⟨by rfl, ?_⟩; with_reducible rfl) | (refine Or.inl ⟨by rfl, ?_⟩; intro wS hSw; rw [HUb.out] at hSw; obtain ⟨v0, v1, v2, v3, v4, v5, v6, v7, v8⟩ := nine_box ((hSw.block _ (lt_of_block H1.out)).trans H1.out); obtain ⟨-, -, -, -, -, -, t6⟩ := (HT.out.later hSw).cells; rw [← HTb.out] at t6; go_simp; try with_reducible rfl)
      simp only [Act.put, List.setIfInBounds_toArray, List.set_cons_zero, List.set_cons_succ]
      refine wpAnyH_take (i := 12) (oi := ⟨_, _, _, _, _, _⟩) (v := ?v12) rfl (by kernel_rfl) (by kernel_rfl) (by kernel_rfl) (fun _ _ _ h => h) ?y12 hS ?_
      case y12 => first | (refine Or.inr ⟨by rfl, ?_⟩; with_reducible rfl) | (refine Or.inl ⟨by rfl, ?_⟩; intro wS hSw; rw [HUb.out] at hSw; obtain ⟨v0, v1, v2, v3, v4, v5, v6, v7, v8⟩ := nine_box ((hSw.block _ (lt_of_block H1.out)).trans H1.out); obtain ⟨-, -, -, -, -, -, t6⟩ := (HT.out.later hSw).cells; rw [← HTb.out] at t6; go_simp; try with_reducible rfl)
      simp only [Act.put, List.setIfInBounds_toArray, List.set_cons_zero, List.set_cons_succ]
      refine wpAnyH_ready (rs := [13]) (by kernel_rfl) (by simp) ?_
      refine AllReadyH.cons (o := ⟨_, _, _, _, _, _⟩) rfl (fun K hK => ?_) AllReadyH.nil
      go_simp
      have ha := one_new z (.cells #[.int .i64 0, .int .i64 0, .slice none 0 0] 136 (0, 0))
      refine hK.out _ _ (hSz.trans (ha.1.mono (Nat.le_trans HUl.out hSz.size))) (fun hS3 => ?_)
      clear hK K
      try simp only [Act.put, List.setIfInBounds_toArray, List.set_cons_zero, List.set_cons_succ]
      have hF : Below ub u (z.alloc (.cells #[.int .i64 0, .int .i64 0, .slice none 0 0] 136 (0, 0))) ∧ (z.alloc (.cells #[.int .i64 0, .int .i64 0, .slice none 0 0] 136 (0, 0))).heap[z.heap.size]? = some (.cells #[.int .i64 0, .int .i64 0, .slice none 0 0] 136 (0, 0)) ∧ (X + 1 < z.heap.size ∧ ub ≤ z.heap.size) ∧ TwIn (z.alloc (.cells #[.int .i64 0, .int .i64 0, .slice none 0 0] 136 (0, 0))) (.slice fa tn fc) tr ∧ ReadQ lk level en sn tr := ⟨hSz.trans (ha.1.mono (Nat.le_trans HUl.out hSz.size)), ha.2, ⟨Nat.lt_of_lt_of_le (lt_of_block H2.out) hSz.size, Nat.le_trans HUl.out hSz.size⟩, HV.out.later ha.1, HRd.out⟩
      refine wpAnyH_listed (L := #[true, true, true, true, true, true, true, true, true, true, true, true, true, true, false, false]) (by kernel_rfl) ?_
      obtain ⟨Q, hQ⟩ : ∃ Q, Q = z.heap.size := ⟨_, rfl⟩
      rw [← hQ] at hF ⊢
      generalize z.alloc (.cells #[.int .i64 0, .int .i64 0, .slice none 0 0] 136 (0, 0)) = z2 at hF ⊢
      clear hQ
      clear HV HRd
      revert hF
      revert z2
      revert Q
      revert tr
      revert sn
      revert fc
      revert tn
      revert fa
      revert l
      revert en
      exact key
    · skip
      go_simp
      have ha := one_new u (.cells #[.int .i64 0, .int .i64 0, .slice none 0 0] 136 (0, 0))
      refine hK.out _ _ (hS.alloc (Nat.le_trans HUl.out hS.size) _) (fun hS3 => ?_)
      clear hK K
      try simp only [Act.put, List.setIfInBounds_toArray, List.set_cons_zero, List.set_cons_succ]
      have haS : Below ub u (u.alloc (.cells #[.int .i64 0, .int .i64 0, .slice none 0 0] 136 (0, 0))).drew := by rw [HUb.out]; exact ha.1.drew
      refine wpAnyH_ready (rs := [9]) (by kernel_rfl) (by simp) ?_
      refine AllReadyH.cons (o := ⟨_, _, _, _, _, _⟩) rfl (fun K hK => ?_) AllReadyH.nil
      go_simp
      refine (HRead.out _ haS).mono ?_
      rintro e z ⟨hb, en, l, v, sn, tr, rfl, hv, hrd⟩
      obtain ⟨fa, fc, rfl⟩ := hv.1.val
      have HV := Lib.hid hv
      have HRd := Lib.hid hrd
      obtain ⟨tn, htn⟩ : ∃ tn, tn = tr.length := ⟨_, rfl⟩
      rw [← htn] at HV ⊢
      clear htn hv hrd
      go_wp2_with fail
      have hSz := (haS).trans (hb.mono (Nat.le_trans HUl.out (haS).size))
      refine hK.out _ _ hSz (fun hS2 => ?_)
      clear hK K
      try simp only [Act.put, List.setIfInBounds_toArray, List.set_cons_zero, List.set_cons_succ]
      have hS := hSz
      refine wpAnyH_take (i := 10) (oi := ⟨_, _, _, _, _, _⟩) (v := ?v13) rfl (by kernel_rfl) (by kernel_rfl) (by kernel_rfl) (fun _ _ _ h => h) ?y13 hS ?_
      case y13 => first | (refine Or.inr ⟨by rfl, ?_⟩; with_reducible rfl) | (refine Or.inl ⟨by rfl, ?_⟩; intro wS hSw; rw [HUb.out] at hSw; obtain ⟨v0, v1, v2, v3, v4, v5, v6, v7, v8⟩ := nine_box ((hSw.block _ (lt_of_block H1.out)).trans H1.out); obtain ⟨-, -, -, -, -, -, t6⟩ := (HT.out.later hSw).cells; rw [← HTb.out] at t6; go_simp; try with_reducible rfl)
      simp only [Act.put, List.setIfInBounds_toArray, List.set_cons_zero, List.set_cons_succ]
      refine wpAnyH_take (i := 11) (oi := ⟨_, _, _, _, _, _⟩) (v := ?v14) rfl (by kernel_rfl) (by kernel_rfl) (by kernel_rfl) (fun _ _ _ h => h) ?y14 hS ?_
      case y14 => first | (refine Or.inr ⟨by rfl, ?_⟩; with_reducible rfl) | (refine Or.inl ⟨by rfl, ?_⟩; intro wS hSw; rw [HUb.out] at hSw; obtain ⟨v0, v1, v2, v3, v4, v5, v6, v7, v8⟩ := nine_box ((hSw.block _ (lt_of_block H1.out)).trans H1.out); obtain ⟨-, -, -, -, -, -, t6⟩ := (HT.out.later hSw).cells; rw [← HTb.out] at t6; go_simp; try with_reducible rfl)
      simp only [Act.put, List.setIfInBounds_toArray, List.set_cons_zero, List.set_cons_succ]
      refine wpAnyH_take (i := 12) (oi := ⟨_, _, _, _, _, _⟩) (v := ?v15) rfl (by kernel_rfl) (by kernel_rfl) (by kernel_rfl) (fun _ _ _ h => h) ?y15 hS ?_
      case y15 => first | (refine Or.inr ⟨by rfl, ?_⟩; with_reducible rfl) | (refine Or.inl ⟨by rfl, ?_⟩; intro wS hSw; rw [HUb.out] at hSw; obtain ⟨v0, v1, v2, v3, v4, v5, v6, v7, v8⟩ := nine_box ((hSw.block _ (lt_of_block H1.out)).trans H1.out); obtain ⟨-, -, -, -, -, -, t6⟩ := (HT.out.later hSw).cells; rw [← HTb.out] at t6; go_simp; try with_reducible rfl)
      simp only [Act.put, List.setIfInBounds_toArray, List.set_cons_zero, List.set_cons_succ]
      have hF : Below ub u z ∧ z.heap[u.heap.size]? = some (.cells #[.int .i64 0, .int .i64 0, .slice none 0 0] 136 (0, 0)) ∧ (X + 1 < u.heap.size ∧ ub ≤ u.heap.size) ∧ TwIn z (.slice fa tn fc) tr ∧ ReadQ lk level en sn tr := ⟨hSz, (hb.block _ (lt_of_block ha.2)).trans ha.2, ⟨lt_of_block H2.out, HUl.out⟩, HV.out, HRd.out⟩
      refine wpAnyH_listed (L := #[true, true, true, true, true, true, true, true, true, true, true, true, true, true, false, false]) (by kernel_rfl) ?_
      obtain ⟨Q, hQ⟩ : ∃ Q, Q = u.heap.size := ⟨_, rfl⟩
      rw [← hQ] at hF ⊢
      generalize z = z2 at hF ⊢
      clear hQ
      clear HV HRd
      revert hF
      revert z2
      revert Q
      revert tr
      revert sn
      revert fc
      revert tn
      revert fa
      revert l
      revert en
      exact key
  · intro en l fa tn fc sn tr Q z hF
    obtain ⟨hS, hqz, hXQ, hvz, hrd⟩ := hF
    have HSa := Lib.hid (show Below u.heap.size u z by rw [← HUb.out]; exact hS)
    have HQz := Lib.hid hqz
    have HXQ := Lib.hid hXQ
    have HVz := Lib.hid hvz
    have HRd := Lib.hid hrd
    clear hqz hvz hrd HRead
    obtain ⟨k0, k1, k2, l0, l1, l2⟩ := three_box HQz.out
    refine wpAnyH_ready (rs := [14]) (by kernel_rfl) (by simp) ?_
    refine AllReadyH.cons (o := ⟨_, _, _, _, _, _⟩) rfl (fun K hK => ?_) AllReadyH.nil
    go_simp
    have b1 := block_setCell' (k := 0) (u := .int .i64 en) HQz.out
    have b2 := block_setCell' (k := 1) (u := .int .i64 l) b1
    have b3 := block_setCell' (k := 2) (u := .slice fa tn fc) b2
    have hkq := (((Keeps.refl (fun k => k = Q) z).setCell (p := ⟨Q, 0, none⟩) rfl (.int .i64 en)).setCell (p := ⟨Q, 1, none⟩) rfl (.int .i64 l)).setCell (p := ⟨Q, 2, none⟩) rfl (.slice fa tn fc)
    have hS2 := hS.trans (hkq.one_below (Nat.le_trans HUl.out hS.size) HXQ.out.2)
    refine hK.out _ _ hS2 (fun hS3 => ?_)
    clear hK K k0 k1 k2 l0 l1 l2 hS hS3
    try simp only [Act.put, List.setIfInBounds_toArray, List.set_cons_zero, List.set_cons_succ]
    have hS := hS2
    have HB3 := Lib.hid (And.intro b3 hkq)
    clear b1 b2 b3 hkq hS2
    refine wpAnyH_take (i := 15) (oi := ⟨_, _, _, _, _, _⟩) (v := ?v16) rfl (by kernel_rfl) (by kernel_rfl) (by kernel_rfl) (fun _ _ _ h => h) ?y16 hS ?_
    case y16 => first | (refine Or.inr ⟨by rfl, ?_⟩; with_reducible rfl) | (refine Or.inl ⟨by rfl, ?_⟩; intro wS hSw; rw [HUb.out] at hSw; obtain ⟨v0, v1, v2, v3, v4, v5, v6, v7, v8⟩ := nine_box ((hSw.block _ (lt_of_block H1.out)).trans H1.out); obtain ⟨-, -, -, -, -, -, t6⟩ := (HT.out.later hSw).cells; rw [← HTb.out] at t6; go_simp; try with_reducible rfl)
    simp only [Act.put, List.setIfInBounds_toArray, List.set_cons_zero, List.set_cons_succ]
    refine wpAnyH_done (by kernel_rfl) ?_ _
    have hkt : KeepT 0 [136] false z _ := one_keep HB3.out.2 HQz.out (Nat.zero_le _) (List.mem_singleton.2 rfl) (by simp)
    refine gen_any (S := fun y => Below u.heap.size u y ∧ y.heap[Q]? = some (.cells #[.int .i64 en, .int .i64 l, .slice fa tn fc] 136 (0, 0)) ∧ TwIn y (.slice fa tn fc) tr) ⟨by rw [← HUb.out]; exact hS, HB3.out.1, HVz.out.keepT hkt (by simp)⟩ (fun y hy => ?_)
    obtain ⟨hby, hqy, hvy⟩ := hy
    have HTy := Lib.hid (HT.out.later hby)
    have HKy := Lib.hid (KeepT.tra HK.out (KeepT.ofBelow hby))
    have H1y := Lib.hid ((hby.block _ (lt_of_block H1.out)).trans H1.out)
    have H2y := Lib.hid ((hby.block _ (lt_of_block H2.out)).trans H2.out)
    have HQy := Lib.hid hqy
    have HVy := Lib.hid hvy
    have hrd := HRd.out
    have hce := HE.out
    unfold callE at hce
    rw [← HLk0.out] at hce
    clear hS hby hqy hvy hkt HB3 HQz HSa HVz HSt HT HK H1 H2
    obtain ⟨v0, v1, v2, v3, v4, v5, v6, v7, v8⟩ := nine_box H1y.out
    obtain ⟨k0, k1, k2, l0, l1, l2⟩ := three_box HQy.out
    cases lk with
    | none =>
      simp only [ReadQ] at hrd hce
      subst hrd
      cases hru : C.R[rule.toNat]? with
      | none => rw [hru] at hce; cases hce
      | some ru =>
      rw [hru] at hce
      have HGrow := Lib.hid (hGr rule level p ru F st r st' y HTy.out HL.out HPw.out HRule2.out.1 hru HLev.out (lookup_none HLk0.out.symm) hl hce)
      rw [← HTb.out] at HGrow
      clear hru hce
      go_wp2_with fail
      refine HGrow.out.mono ?_
      rintro e z3 ⟨⟨v, rfl, fv, rfl, hfv⟩, htz, hkz⟩
      obtain ⟨ga, gc, rfl⟩ := hfv.1.val
      have HFv := Lib.hid hfv
      have HTz := Lib.hid htz
      have HKz := Lib.hid (KeepT.tra HKy.out hkz)
      have H2z := Lib.hid (hkz.cells H2y.out (by decide))
      unfold foV foC
      obtain ⟨gn, hgn⟩ : ∃ gn, gn = (foF r).length := ⟨_, rfl⟩
      rw [← hgn] at HFv ⊢
      clear hfv htz hkz hgn v0 v1 v2 v3 v4 v5 v6 v7 v8 k0 k1 k2 l0 l1 l2
      obtain ⟨d0, d1, d2, d3, d4⟩ := five_box H2z.out
      obtain ⟨g0, g1, g2, g3, g4⟩ := five_frz H2z.out
      go_wp2
      obtain ⟨k5, hk5⟩ := set5 H2z.out (.bool (foIs r)) (.int .i64 (foEn r)) (.int .i64 (foFar r)) (.int .i64 (foRt r)) (.slice ga gn gc)
      obtain ⟨q0, q1, q2, q3, q4⟩ := five_box k5
      have hxw : w.heap.size ≤ X + 1 := by have := HX.out; omega
      exact bodyPost_ret (v := .agg #[.bool (foIs r), .int .i64 (foEn r), .int .i64 (foFar r), .int .i64 (foRt r), .slice ga gn gc]) (by simp [results, Tryz.f129, go_sem, q0, q1, q2, q3, q4]) rfl ⟨⟨_, rfl, _, rfl, HFv.out.res H2z.out hk5⟩, HTz.out.res H2z.out (Nat.le_trans H.out.base hxw) hk5, HKz.out.endAt hxw hk5⟩
    | some o =>
      cases o with
      | none =>
        simp only [ReadQ] at hrd hce
        subst hrd
        simp only [Option.some.injEq, Prod.mk.injEq] at hce
        obtain ⟨hr1, hs1⟩ := hce
        have HR1 := Lib.hid hr1
        have HS1 := Lib.hid hs1
        clear hr1 hs1
        go_wp2_with fail
        refine (miss_any (-1) y).mono ?_
        rintro e w3 ⟨rfl, hb3⟩
        have HT3 := Lib.hid (HTy.out.later hb3)
        have HK3 := Lib.hid (KeepT.tra HKy.out (KeepT.ofBelow hb3))
        have H23 := Lib.hid ((hb3.block _ (lt_of_block H2y.out)).trans H2y.out)
        clear hb3 v0 v1 v2 v3 v4 v5 v6 v7 v8 k0 k1 k2 l0 l1 l2
        obtain ⟨d0, d1, d2, d3, d4⟩ := five_box H23.out
        obtain ⟨g0, g1, g2, g3, g4⟩ := five_frz H23.out
        go_wp2
        rw [← HS1.out, ← HR1.out]
        obtain ⟨k5, hk5⟩ := set5 H23.out (.bool false) (.int .i64 0) (.int .i64 (-1)) (.int .i64 0) (.slice none 0 0)
        obtain ⟨q0, q1, q2, q3, q4⟩ := five_box k5
        have hxw : w.heap.size ≤ X + 1 := by have := HX.out; omega
        exact bodyPost_ret (v := .agg #[.bool false, .int .i64 0, .int .i64 (-1), .int .i64 0, .slice none 0 0]) (by simp [results, Tryz.f129, go_sem, q0, q1, q2, q3, q4]) rfl ⟨⟨_, rfl, _, rfl, TwIn.nil _⟩, HT3.out.res H23.out (Nat.le_trans H.out.base hxw) hk5, HK3.out.endAt hxw hk5⟩
      | some sd =>
        simp only [ReadQ] at hrd hce
        by_cases hle : sd.lev ≤ level
        case neg =>
          rw [if_neg hle] at hrd hce
          subst hrd
          simp only [Option.some.injEq, Prod.mk.injEq] at hce
          obtain ⟨hr1, hs1⟩ := hce
          have HR1 := Lib.hid hr1
          have HS1 := Lib.hid hs1
          clear hr1 hs1 hle
          go_wp2_with fail
          refine (miss_any (-1) y).mono ?_
          rintro e w3 ⟨rfl, hb3⟩
          have HT3 := Lib.hid (HTy.out.later hb3)
          have HK3 := Lib.hid (KeepT.tra HKy.out (KeepT.ofBelow hb3))
          have H23 := Lib.hid ((hb3.block _ (lt_of_block H2y.out)).trans H2y.out)
          clear hb3 v0 v1 v2 v3 v4 v5 v6 v7 v8 k0 k1 k2 l0 l1 l2
          obtain ⟨d0, d1, d2, d3, d4⟩ := five_box H23.out
          obtain ⟨g0, g1, g2, g3, g4⟩ := five_frz H23.out
          go_wp2
          rw [← HS1.out, ← HR1.out]
          obtain ⟨k5, hk5⟩ := set5 H23.out (.bool false) (.int .i64 0) (.int .i64 (-1)) (.int .i64 0) (.slice none 0 0)
          obtain ⟨q0, q1, q2, q3, q4⟩ := five_box k5
          have hxw : w.heap.size ≤ X + 1 := by have := HX.out; omega
          exact bodyPost_ret (v := .agg #[.bool false, .int .i64 0, .int .i64 (-1), .int .i64 0, .slice none 0 0]) (by simp [results, Tryz.f129, go_sem, q0, q1, q2, q3, q4]) rfl ⟨⟨_, rfl, _, rfl, TwIn.nil _⟩, HT3.out.res H23.out (Nat.le_trans H.out.base hxw) hk5, HK3.out.endAt hxw hk5⟩
        case pos =>
          rw [if_pos hle] at hrd hce
          obtain ⟨rfl, rfl, rfl⟩ := hrd
          cases hcd : (Ht.mk sd.en (-1) (topR sd.tree).length sd.tree).called rule level p with
          | none => rw [hcd] at hce; cases hce
          | some g =>
          rw [hcd] at hce
          simp only [Option.some.injEq, Prod.mk.injEq] at hce
          obtain ⟨hr1, hs1⟩ := hce
          have HR1 := Lib.hid hr1
          have HS1 := Lib.hid hs1
          have HCd := Lib.hid hcd
          obtain ⟨-, -, -, -, hsd⟩ := HL.out.ok _ (lookup_mem HLk0.out.symm)
          obtain ⟨hs1', hs2', hs3', hs4', hs5', hs6'⟩ := hsd sd rfl
          have HTl := Lib.hid hs3'
          have HRoots := Lib.hid (fun z (hz : Below y.heap.size y z) => tRoots_any _ z (TwIn.row (HVy.out.later hz) hs6' hs3'))
          obtain ⟨rs, hrs⟩ : ∃ rs, rs = topR sd.tree := ⟨_, rfl⟩
          have HRs := Lib.hid (show rs.length ≤ 1000000 by rw [hrs]; exact Nat.le_trans (top_le _) hs3')
          have HRe := Lib.hid hrs
          rw [← hrs] at HRoots
          obtain ⟨rn, hrn⟩ : ∃ rn, rn = rs.length := ⟨_, rfl⟩
          have HRn := Lib.hid hrn
          rw [← hrn] at HRs
          have HVl := Lib.hid HVy.out
          obtain ⟨ub2, hub2'⟩ : ∃ ub2, ub2 = y.heap.size := ⟨_, rfl⟩
          have HUb2 := Lib.hid hub2'
          have HUl2 := Lib.hid (Nat.le_of_eq hub2')
          have hy2 : Below ub2 y y.drew := by rw [hub2']; exact (Below.refl y.heap.size y).drew
          clear hr1 hs1 hle hcd hsd hs1' hs2' hs3' hs4' hs5' hs6' hrs hrn hub2' v0 v1 v2 v3 v4 v5 v6 v7 v8 k0 k1 k2 l0 l1 l2
          go_upto_region 6 with (fail)
          refine wp_region_held_drew (S := fun z => Below ub2 y z) (by kernel_rfl) hy2 (fun hS => ?_)
          refine wpAnyH_take (i := 0) (oi := ⟨_, _, _, _, _, _⟩) (v := ?v17) rfl (by kernel_rfl) (by kernel_rfl) (by kernel_rfl) (fun _ _ _ h => h) ?y17 hS ?_
          case y17 => first | (refine Or.inr ⟨by rfl, ?_⟩; with_reducible rfl) | (refine Or.inl ⟨by rfl, ?_⟩; intro wS hSw; rw [HUb2.out] at hSw; obtain ⟨k0, k1, k2, l0, l1, l2⟩ := three_box ((hSw.block _ (lt_of_block HQy.out)).trans HQy.out); go_simp; try with_reducible rfl)
          simp only [Act.put, List.setIfInBounds_toArray, List.set_cons_zero, List.set_cons_succ]
          refine wpAnyH_take (i := 1) (oi := ⟨_, _, _, _, _, _⟩) (v := ?v18) rfl (by kernel_rfl) (by kernel_rfl) (by kernel_rfl) (fun _ _ _ h => h) ?y18 hS ?_
          case y18 => first | (refine Or.inr ⟨by rfl, ?_⟩; with_reducible rfl) | (refine Or.inl ⟨by rfl, ?_⟩; intro wS hSw; rw [HUb2.out] at hSw; obtain ⟨k0, k1, k2, l0, l1, l2⟩ := three_box ((hSw.block _ (lt_of_block HQy.out)).trans HQy.out); go_simp; try with_reducible rfl)
          simp only [Act.put, List.setIfInBounds_toArray, List.set_cons_zero, List.set_cons_succ]
          refine wpAnyH_take (i := 2) (oi := ⟨_, _, _, _, _, _⟩) (v := ?v19) rfl (by kernel_rfl) (by kernel_rfl) (by kernel_rfl) (fun _ _ _ h => h) ?y19 hS ?_
          case y19 => first | (refine Or.inr ⟨by rfl, ?_⟩; with_reducible rfl) | (refine Or.inl ⟨by rfl, ?_⟩; intro wS hSw; rw [HUb2.out] at hSw; obtain ⟨k0, k1, k2, l0, l1, l2⟩ := three_box ((hSw.block _ (lt_of_block HQy.out)).trans HQy.out); go_simp; try with_reducible rfl)
          simp only [Act.put, List.setIfInBounds_toArray, List.set_cons_zero, List.set_cons_succ]
          refine wpAnyH_take (i := 3) (oi := ⟨_, _, _, _, _, _⟩) (v := ?v20) rfl (by kernel_rfl) (by kernel_rfl) (by kernel_rfl) (fun _ _ _ h => h) ?y20 hS ?_
          case y20 => first | (refine Or.inr ⟨by rfl, ?_⟩; with_reducible rfl) | (refine Or.inl ⟨by rfl, ?_⟩; intro wS hSw; rw [HUb2.out] at hSw; obtain ⟨k0, k1, k2, l0, l1, l2⟩ := three_box ((hSw.block _ (lt_of_block HQy.out)).trans HQy.out); go_simp; try with_reducible rfl)
          simp only [Act.put, List.setIfInBounds_toArray, List.set_cons_zero, List.set_cons_succ]
          refine wpAnyH_take (i := 6) (oi := ⟨_, _, _, _, _, _⟩) (v := ?v21) rfl (by kernel_rfl) (by kernel_rfl) (by kernel_rfl) (fun _ _ _ h => h) ?y21 hS ?_
          case y21 => first | (refine Or.inr ⟨by rfl, ?_⟩; with_reducible rfl) | (refine Or.inl ⟨by rfl, ?_⟩; intro wS hSw; rw [HUb2.out] at hSw; obtain ⟨k0, k1, k2, l0, l1, l2⟩ := three_box ((hSw.block _ (lt_of_block HQy.out)).trans HQy.out); go_simp; try with_reducible rfl)
          simp only [Act.put, List.setIfInBounds_toArray, List.set_cons_zero, List.set_cons_succ]
          refine wpAnyH_take (i := 7) (oi := ⟨_, _, _, _, _, _⟩) (v := ?v22) rfl (by kernel_rfl) (by kernel_rfl) (by kernel_rfl) (fun _ _ _ h => h) ?y22 hS ?_
          case y22 => first | (refine Or.inr ⟨by rfl, ?_⟩; with_reducible rfl) | (refine Or.inl ⟨by rfl, ?_⟩; intro wS hSw; rw [HUb2.out] at hSw; obtain ⟨k0, k1, k2, l0, l1, l2⟩ := three_box ((hSw.block _ (lt_of_block HQy.out)).trans HQy.out); go_simp; try with_reducible rfl)
          simp only [Act.put, List.setIfInBounds_toArray, List.set_cons_zero, List.set_cons_succ]
          apply cut_in
          · intro key
            refine wpAnyH_ready (rs := [4, 9]) (by kernel_rfl) (by simp) ?_
            refine AllReadyH.cons (o := ⟨_, _, _, _, _, _⟩) rfl (fun K hK => ?_) (AllReadyH.cons (o := ⟨_, _, _, _, _, _⟩) rfl (fun K hK => ?_) AllReadyH.nil)
            · skip
              go_simp
              refine (HRoots.out _ (by rw [← HUb2.out]; exact hS)).mono ?_
              rintro e z ⟨v', rfl, hown, hb⟩
              obtain ⟨ra', rc', rfl⟩ := own_val hown
              rw [← HRn.out]
              go_wp2_with fail
              have hSz := (hS).trans (hb.mono (Nat.le_trans HUl2.out (hS).size))
              refine hK.out _ _ hSz (fun hS2 => ?_)
              clear hK K
              try simp only [Act.put, List.setIfInBounds_toArray, List.set_cons_zero, List.set_cons_succ]
              have hS := hSz
              refine wpAnyH_take (i := 5) (oi := ⟨_, _, _, _, _, _⟩) (v := ?v23) rfl (by kernel_rfl) (by kernel_rfl) (by kernel_rfl) (fun _ _ _ h => h) ?y23 hS ?_
              case y23 => first | (refine Or.inr ⟨by rfl, ?_⟩; with_reducible rfl) | (refine Or.inl ⟨by rfl, ?_⟩; intro wS hSw; rw [HUb2.out] at hSw; obtain ⟨k0, k1, k2, l0, l1, l2⟩ := three_box ((hSw.block _ (lt_of_block HQy.out)).trans HQy.out); go_simp; try with_reducible rfl)
              simp only [Act.put, List.setIfInBounds_toArray, List.set_cons_zero, List.set_cons_succ]
              refine wpAnyH_take (i := 8) (oi := ⟨_, _, _, _, _, _⟩) (v := ?v24) rfl (by kernel_rfl) (by kernel_rfl) (by kernel_rfl) (fun _ _ _ h => h) ?y24 hS ?_
              case y24 => first | (refine Or.inr ⟨by rfl, ?_⟩; with_reducible rfl) | (refine Or.inl ⟨by rfl, ?_⟩; intro wS hSw; rw [HUb2.out] at hSw; obtain ⟨k0, k1, k2, l0, l1, l2⟩ := three_box ((hSw.block _ (lt_of_block HQy.out)).trans HQy.out); go_simp; try with_reducible rfl)
              simp only [Act.put, List.setIfInBounds_toArray, List.set_cons_zero, List.set_cons_succ]
              refine wpAnyH_ready (rs := [9]) (by kernel_rfl) (by simp) ?_
              refine AllReadyH.cons (o := ⟨_, _, _, _, _, _⟩) rfl (fun K hK => ?_) AllReadyH.nil
              go_simp
              have ha := one_new z (.cells #[.bool false, .int .i64 0, .int .i64 0, .int .i64 0, .slice none 0 0] 73 (0, 0))
              refine hK.out _ _ (hSz.trans (ha.1.mono (Nat.le_trans HUl2.out hSz.size))) (fun hS3 => ?_)
              clear hK K
              try simp only [Act.put, List.setIfInBounds_toArray, List.set_cons_zero, List.set_cons_succ]
              have hF : Below ub2 y (z.alloc (.cells #[.bool false, .int .i64 0, .int .i64 0, .int .i64 0, .slice none 0 0] 73 (0, 0))) ∧ (z.alloc (.cells #[.bool false, .int .i64 0, .int .i64 0, .int .i64 0, .slice none 0 0] 73 (0, 0))).heap[z.heap.size]? = some (.cells #[.bool false, .int .i64 0, .int .i64 0, .int .i64 0, .slice none 0 0] 73 (0, 0)) ∧ (Q < z.heap.size ∧ ub2 ≤ z.heap.size) := ⟨hSz.trans (ha.1.mono (Nat.le_trans HUl2.out hSz.size)), ha.2, ⟨Nat.lt_of_lt_of_le (lt_of_block HQy.out) hSz.size, Nat.le_trans HUl2.out hSz.size⟩⟩
              refine wpAnyH_listed (L := #[true, true, true, true, true, true, true, true, true, true, false]) (by kernel_rfl) ?_
              obtain ⟨Q2, hQ⟩ : ∃ Q2, Q2 = z.heap.size := ⟨_, rfl⟩
              rw [← hQ] at hF ⊢
              generalize z.alloc (.cells #[.bool false, .int .i64 0, .int .i64 0, .int .i64 0, .slice none 0 0] 73 (0, 0)) = z2 at hF ⊢
              clear hQ hown
              revert hF
              revert z2
              revert Q2
              revert rc'
              revert ra'
              exact key
            · skip
              go_simp
              have ha := one_new y (.cells #[.bool false, .int .i64 0, .int .i64 0, .int .i64 0, .slice none 0 0] 73 (0, 0))
              refine hK.out _ _ (hS.alloc (Nat.le_trans HUl2.out hS.size) _) (fun hS3 => ?_)
              clear hK K
              try simp only [Act.put, List.setIfInBounds_toArray, List.set_cons_zero, List.set_cons_succ]
              have haS : Below ub2 y (y.alloc (.cells #[.bool false, .int .i64 0, .int .i64 0, .int .i64 0, .slice none 0 0] 73 (0, 0))).drew := by rw [HUb2.out]; exact ha.1.drew
              refine wpAnyH_ready (rs := [4]) (by kernel_rfl) (by simp) ?_
              refine AllReadyH.cons (o := ⟨_, _, _, _, _, _⟩) rfl (fun K hK => ?_) AllReadyH.nil
              go_simp
              refine (HRoots.out _ (by rw [← HUb2.out]; exact haS)).mono ?_
              rintro e z ⟨v', rfl, hown, hb⟩
              obtain ⟨ra', rc', rfl⟩ := own_val hown
              rw [← HRn.out]
              go_wp2_with fail
              have hSz := (haS).trans (hb.mono (Nat.le_trans HUl2.out (haS).size))
              refine hK.out _ _ hSz (fun hS2 => ?_)
              clear hK K
              try simp only [Act.put, List.setIfInBounds_toArray, List.set_cons_zero, List.set_cons_succ]
              have hS := hSz
              refine wpAnyH_take (i := 5) (oi := ⟨_, _, _, _, _, _⟩) (v := ?v25) rfl (by kernel_rfl) (by kernel_rfl) (by kernel_rfl) (fun _ _ _ h => h) ?y25 hS ?_
              case y25 => first | (refine Or.inr ⟨by rfl, ?_⟩; with_reducible rfl) | (refine Or.inl ⟨by rfl, ?_⟩; intro wS hSw; rw [HUb2.out] at hSw; obtain ⟨k0, k1, k2, l0, l1, l2⟩ := three_box ((hSw.block _ (lt_of_block HQy.out)).trans HQy.out); go_simp; try with_reducible rfl)
              simp only [Act.put, List.setIfInBounds_toArray, List.set_cons_zero, List.set_cons_succ]
              refine wpAnyH_take (i := 8) (oi := ⟨_, _, _, _, _, _⟩) (v := ?v26) rfl (by kernel_rfl) (by kernel_rfl) (by kernel_rfl) (fun _ _ _ h => h) ?y26 hS ?_
              case y26 => first | (refine Or.inr ⟨by rfl, ?_⟩; with_reducible rfl) | (refine Or.inl ⟨by rfl, ?_⟩; intro wS hSw; rw [HUb2.out] at hSw; obtain ⟨k0, k1, k2, l0, l1, l2⟩ := three_box ((hSw.block _ (lt_of_block HQy.out)).trans HQy.out); go_simp; try with_reducible rfl)
              simp only [Act.put, List.setIfInBounds_toArray, List.set_cons_zero, List.set_cons_succ]
              have hF : Below ub2 y z ∧ z.heap[y.heap.size]? = some (.cells #[.bool false, .int .i64 0, .int .i64 0, .int .i64 0, .slice none 0 0] 73 (0, 0)) ∧ (Q < y.heap.size ∧ ub2 ≤ y.heap.size) := ⟨hSz, (hb.block _ (lt_of_block ha.2)).trans ha.2, ⟨lt_of_block HQy.out, HUl2.out⟩⟩
              refine wpAnyH_listed (L := #[true, true, true, true, true, true, true, true, true, true, false]) (by kernel_rfl) ?_
              obtain ⟨Q2, hQ⟩ : ∃ Q2, Q2 = y.heap.size := ⟨_, rfl⟩
              rw [← hQ] at hF ⊢
              clear hown
              generalize z = z2 at hF ⊢
              clear hQ
              revert hF
              revert z2
              revert Q2
              revert rc'
              revert ra'
              exact key
          · intro ra' rc' Q2 z hF
            obtain ⟨hS, hqz, hXQ⟩ := hF
            have HSa := Lib.hid hS
            have HQz := Lib.hid hqz
            have HXQ2 := Lib.hid hXQ
            clear hqz hXQ
            refine wpAnyH_ready (rs := [10]) (by kernel_rfl) (by simp) ?_
            refine AllReadyH.cons (o := ⟨_, _, _, _, _, _⟩) rfl (fun K hK => ?_) AllReadyH.nil
            obtain ⟨d0, d1, d2, d3, d4⟩ := five_box HQz.out
            obtain ⟨g0, g1, g2, g3, g4⟩ := five_frz HQz.out
            go_simp
            obtain ⟨k5, hk5⟩ := set5 HQz.out (.bool true) (.int .i64 sd.en) (.int .i64 (-1)) (.int .i64 rn) (.slice fa tn fc)
            have hS2 := hS.trans (hk5.one_below (Nat.le_trans HUl2.out hS.size) HXQ2.out.2)
            refine hK.out _ _ hS2 (fun hS3 => ?_)
            clear hK K d0 d1 d2 d3 d4 g0 g1 g2 g3 g4 hS3
            try simp only [Act.put, List.setIfInBounds_toArray, List.set_cons_zero, List.set_cons_succ]
            refine wpAnyH_done (by kernel_rfl) ?_ _
            refine gen_any (S := fun z3 => Below y.heap.size y z3 ∧ z3.heap[Q2]? = some (.cells #[.bool true, .int .i64 sd.en, .int .i64 (-1), .int .i64 rn, .slice fa tn fc] 73 (0, 0))) ⟨by rw [← HUb2.out]; exact hS2, k5⟩ (fun z3 hz3 => ?_)
            obtain ⟨hb3, hq3⟩ := hz3
            have HT3 := Lib.hid (HTy.out.later hb3)
            have HK3 := Lib.hid (KeepT.tra HKy.out (KeepT.ofBelow hb3))
            have H13 := Lib.hid ((hb3.block _ (lt_of_block H1y.out)).trans H1y.out)
            have H23 := Lib.hid ((hb3.block _ (lt_of_block H2y.out)).trans H2y.out)
            have HV3 := Lib.hid (HVl.out.later hb3)
            clear hS hS2 hk5 k5 hb3 HSa HQz
            obtain ⟨v0, v1, v2, v3, v4, v5, v6, v7, v8⟩ := nine_box H13.out
            obtain ⟨d0, d1, d2, d3, d4⟩ := five_box hq3
            clear hq3
            go_wp2_with fail
            refine (called_any sd.en (-1) rn rule level p _ sd.tree z3 HV3.out (by have := HCd.out; unfold Ht.called at this; split at this; assumption; cases this)).mono ?_
            rintro e w3 ⟨⟨fv', rfl, hfv⟩, hb4⟩
            obtain ⟨fa', fc', rfl⟩ := hfv.1.val
            have HT4 := Lib.hid (HT3.out.later hb4)
            have HK4 := Lib.hid (KeepT.tra HK3.out (KeepT.ofBelow hb4))
            have H24 := Lib.hid ((hb4.block _ (lt_of_block H23.out)).trans H23.out)
            have HW4 := Lib.hid hfv
            obtain ⟨ln, hln⟩ : ∃ ln, ln = (Tw.mk rule level p sd.en rn :: sd.tree).length := ⟨_, rfl⟩
            rw [← hln] at HW4 ⊢
            clear hb4 hfv hln v0 v1 v2 v3 v4 v5 v6 v7 v8 d0 d1 d2 d3 d4
            have hg : g = ⟨sd.en, -1, 1, ⟨rule, level, p, sd.en, (topR sd.tree).length⟩ :: sd.tree⟩ := by
              have := HCd.out
              unfold Ht.called at this
              split at this
              · exact (Option.some.inj this).symm
              · cases this
            have HG := Lib.hid hg
            clear hg
            obtain ⟨d0, d1, d2, d3, d4⟩ := five_box H24.out
            obtain ⟨g0, g1, g2, g3, g4⟩ := five_frz H24.out
            go_wp2
            rw [← HS1.out, ← HR1.out, HG.out]
            rw [HRn.out, HRe.out] at HW4
            obtain ⟨k5, hk5⟩ := set5 H24.out (.bool true) (.int .i64 sd.en) (.int .i64 (-1)) (.int .i64 1) (.slice fa' ln fc')
            obtain ⟨q0, q1, q2, q3, q4⟩ := five_box k5
            have hxw : w.heap.size ≤ X + 1 := by have := HX.out; omega
            exact bodyPost_ret (v := .agg #[.bool true, .int .i64 sd.en, .int .i64 (-1), .int .i64 1, .slice fa' ln fc']) (by simp [results, Tryz.f129, go_sem, q0, q1, q2, q3, q4]) rfl ⟨⟨_, rfl, _, rfl, HW4.out.res H24.out hk5⟩, HT4.out.res H24.out (Nat.le_trans H.out.base hxw) hk5, HK4.out.endAt hxw hk5⟩
end Go.Proofs.YtkimkghldilliaaGreat
