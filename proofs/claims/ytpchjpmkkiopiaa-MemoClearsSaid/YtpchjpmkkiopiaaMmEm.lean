import Derived.Test.YtpchjpmkkiopiaaMeNm
import Derived.Test.YtpchjpmkkiopiaaMmDm
namespace Go.Proofs.Ytpchjpmkkiopiaa
open Go.RowKit Go.Lib

/-- what a round of putting keeps. -/
structure ClS (w wr : World) (p q nm km em : Nat) (k : Nat) (next peak : Int) (L : List Rec) : Prop where
  me : MeIs w.heap.size wr p q nm km em next 200 peak L
  ln : L.length ≤ k
  nk : next ≤ k
  nx : ∀ r ∈ L, r.x.tree = [] ∧ r.x.tou = []
  bel : Below w.heap.size w wr
theorem ClS.later {w wr w2 : World} {p q nm km em k : Nat} {next peak : Int} {L : List Rec} (h : ClS w wr p q nm km em k next peak L) (hb : Below wr.heap.size wr w2) : ClS w w2 p q nm km em k next peak L :=
  { h with me := h.me.later hb, bel := h.bel.trans (hb.mono h.bel.size) }
/-- the copy's blocks are watched. -/
abbrev cpW (B T : Nat) : Watch := ⟨fun k => B ≤ k ∧ k < T, T, fun _ h => h.2⟩
theorem pl_fnd {L L' : List Rec} (h : L'.map plR = L.map plR) (x : Ky) : (fndK L' x).map plR = (fndK L x).map plR := by
  have e : ∀ M : List Rec, (fndK M x).map plR = (M.map plR).find? fun z => z.1 == x := fun M => by
    unfold fndK
    rw [List.find?_map]
    rfl
  rw [e, e, h]
theorem pl_keys {L L' : List Rec} (h : L'.map plR = L.map plR) : L'.map (·.k) = L.map (·.k) := by
  have e : ∀ M : List Rec, M.map (·.k) = (M.map plR).map (·.1) := fun M => by rw [List.map_map]; rfl
  rw [e, e, h]
theorem clrK_fnd {L : List Rec} (ho : (L.map (·.k)).Nodup) (pl : Int) (x : Ky) : fndK (clrK L pl) x = if x.place = pl then none else fndK L x := by
  unfold clrK
  by_cases h : x.place = pl
  · rw [if_pos h]
    refine fndK_no fun r hr e => ?_
    have := (List.mem_filter.1 hr).2
    simp [e, h] at this
  · rw [if_neg h]
    cases hf : fndK L x with
    | none => exact fndK_no fun r hr => fndK_none hf r (List.mem_filter.1 hr).1
    | some a =>
      obtain ⟨h1, rfl⟩ := fndK_some hf
      exact fndK_is (ho.sublist ((List.filter_sublist).map _)) (List.mem_filter.2 ⟨h1, by simpa using h⟩)
theorem both_fnd {L L2 : List Rec} (h : L2.map plR = L.map plR) {x : Ky} (hx : x ∈ L.map (·.k)) (hn : ∀ r ∈ L, r.x.tree = [] ∧ r.x.tou = []) : ∃ r r2, fndK L x = some r ∧ fndK L2 x = some r2 ∧ r2.x.en = r.x.en ∧ (r.x.tree = [] ∧ r.x.tou = []) ∧ (r2.x.tree = [] ∧ r2.x.tou = []) := by
  have hp := pl_fnd h x
  cases hf : fndK L x with
  | none =>
    obtain ⟨a, ha, rfl⟩ := List.mem_map.1 hx
    exact absurd rfl (fndK_none hf a ha)
  | some r =>
    rw [hf] at hp
    cases hf2 : fndK L2 x with
    | none => rw [hf2] at hp; simp at hp
    | some r2 =>
      rw [hf2] at hp
      simp only [Option.map_some, Option.some.injEq, plR, Prod.mk.injEq] at hp
      obtain ⟨-, -, -, h4, -, h6, h7⟩ := hp
      have h1 := hn r (fndK_some hf).1
      exact ⟨r, r2, rfl, rfl, h4, h1, by rw [h6, h7]; exact h1⟩
theorem MeIs.base_le [Watch] {base : Nat} {w : World} {p q nm km em : Nat} {next room peak : Int} {L : List Rec} (h : MeIs base w p q nm km em next room peak L) : base ≤ w.heap.size := Nat.le_of_lt (Nat.lt_of_le_of_lt h.ln.bp (lt_of_block h.ln.blk))
theorem put_one {base : Nat} {p q nm km em : Nat} {next peak : Int} {L : List Rec} {k : Ky} (w : World) (h : MeIs base w p q nm km em next 200 peak L) (hkk : kyOk k) (hn : fndK L k = none) (hnx : next < 100000) :
    Calls Try.prog 8 #[.pointer (some ⟨p, 0, none⟩), kyv k, entv (someX 7)] w fun e w' => ∃ v next' peak' L' r, e = .returned (.tuple #[v, .int .i64 0]) ∧ MeIs base w' p q nm km em next' 200 peak' L' ∧ fndK L' k = some r ∧ r.x.en = 7 ∧ (r.x.tree = [] ∧ r.x.tou = []) ∧ KeepM base w w' := by
  by_cases hl : (L.length : Int) = 200
  · refine (mPutF_any (k := k) (someX 7) w h hkk (nil_tw w) (nil_iv w) (by simp [someX]) (by simp [someX]) (by omega) hn hnx hl).mono ?_
    rintro e w' ⟨r, g, c, -, rfl, -, tv, kv, hm, hk⟩
    refine ⟨_, _, _, _, ⟨k, next, (someX 7).is, (someX 7).en, (someX 7).far, (someX 7).tree, (someX 7).tou, tv, kv⟩, rfl, hm, ?_, rfl, ⟨rfl, rfl⟩, hk⟩
    rw [fndK_add, if_pos rfl]
    rw [fndK_drop h.ln.ord.once]
    by_cases e : k = r.k
    · rw [if_pos e]
    · rw [if_neg e, hn]
  · refine (mPutN_any (k := k) (someX 7) w h hkk (nil_tw w) (nil_iv w) (by simp [someX]) (by simp [someX]) (by omega) hn hnx hl).mono ?_
    rintro e w' ⟨rfl, tv, kv, hm, hk⟩
    refine ⟨_, _, _, _, ⟨k, next, (someX 7).is, (someX 7).en, (someX 7).far, (someX 7).tree, (someX 7).tou, tv, kv⟩, rfl, hm, ?_, rfl, ⟨rfl, rfl⟩, hk⟩
    rw [fndK_add, if_pos rfl]
    exact hn
theorem le_place {a b : Ky} (h : Ky.le a b) : a.place ≤ b.place := by
  unfold Ky.le Ky.lt at h
  omega
set_option maxRecDepth 100000 in
set_option maxHeartbeats 40000000 in
theorem memoClears_main (pl : Int) (kk : Ky) (v : Value) (S : List Ky) (w : World) (h : KyAt w v S) (hok : ∀ x ∈ S, kyOk x) (hkk : kyOk kk) (hl : S.length ≤ 1000000000000000) :
    Calls Try.prog 4 #[v, .int .i64 pl, kyv kk] w fun e w' => e = .returned (.bool true) ∧ Below w.heap.size w w' := by
  have H := Lib.hid h
  have HOk := Lib.hid hok
  have HKk := Lib.hid hkk
  obtain ⟨ao, cap, rfl⟩ := h.val
  obtain ⟨n, hn⟩ : ∃ n, n = S.length := ⟨_, rfl⟩
  have HN := Lib.hid hn
  rw [← hn] at H hl ⊢
  clear h hn hok hkk
  go_enter Try.func4, Try.ntmps4
  go_upto_region 1 with (fail)
  refine gen_world (S := fun u => Below w.heap.size w u ∧ u.heap[w.heap.size]? = some (.cells #[.int .i64 kk.rule, .int .i64 kk.level, .int .i64 kk.place] 31 (0, 0))) (one_new w _) (fun u hu => ?_)
  obtain ⟨hb, hx⟩ := hu
  obtain ⟨X, hX⟩ : ∃ X, X = w.heap.size := ⟨_, rfl⟩
  have HXe := Lib.hid hX
  rw [← hX] at hx ⊢
  have HB0 := Lib.hid hb
  have HX0 := Lib.hid hx
  clear hX hb hx
  go_wp2_with fail
  refine (awake_any u).mono ?_
  rintro e w1 ⟨rfl, hb⟩
  have HB1 := Lib.hid (HB0.out.trans (hb.mono HB0.out.size))
  have HX1 := Lib.hid ((hb.block _ (lt_of_block HX0.out)).trans HX0.out)
  clear hb HB0 HX0
  by_cases hbig : 200 < n
  · have h1 : (200 : Int) < n := by omega
    go_wp2
    go_ret
    exact ⟨rfl, HB1.out⟩
  have hb2 : decide ((200 : Int) < n) = false := by simpa using (show (n : Int) ≤ 200 by omega)
  go_wp2_with fail
  refine (mNew_any (base := w.heap.size) 200 w1 (by omega) HB1.out.size (Nat.zero_le _)).mono ?_
  rintro e w2 ⟨p, q, nm, km, em, rfl, hm, hb⟩
  have H0 := Lib.hid (show ClS w w2 p q nm km em 0 0 0 [] from ⟨hm, by simp, Int.le_refl _, by simp, HB1.out.trans (hb.mono HB1.out.size)⟩)
  have HX2 := Lib.hid ((hb.block _ (lt_of_block HX1.out)).trans HX1.out)
  clear hm hb HB1 HX1
  go_wp2
  go_loopw [9] (fun i wr => ∃ (k : Nat) (next peak : Int) (L : List Rec), k ≤ n ∧ i = .int .i64 k ∧ Hid (ClS w wr p q nm km em k next peak L ∧ wr.heap[X]? = some (.cells #[.int .i64 kk.rule, .int .i64 kk.level, .int .i64 kk.place] 31 (0, 0)))) (fun i _ => n - (intOf i).toNat)
  case atStart => exact ⟨0, 0, 0, [], Nat.zero_le _, rfl, Lib.hid ⟨H0.out, HX2.out⟩⟩
  case round =>
    obtain ⟨k, next, peak, L, hk, rfl, HH⟩ := hrel
    by_cases hlt : k < n
    · have hlt2 : (k : Int) < n := by omega
      have hkS : k < S.length := by rw [← HN.out]; exact hlt
      obtain ⟨b, off, rfl, hbl, -⟩ := H.out.cells.2.2 k hkS
      have HC := Lib.hid (show ∀ wS, Below w.heap.size w wS → wS.cell? ⟨b, off + k * 3, none⟩ = some (.int .i64 S[k].rule) ∧ wS.cell? ⟨b, off + k * 3 + 1, none⟩ = some (.int .i64 S[k].level) ∧ wS.cell? ⟨b, off + k * 3 + 2, none⟩ = some (.int .i64 S[k].place) from fun wS hw => by
        obtain ⟨b2, off2, e, -, h1⟩ := (H.out.later hw).cells.2.2 k hkS
        simp only [Option.some.injEq, Addr.mk.injEq, and_true] at e
        obtain ⟨rfl, rfl⟩ := e
        exact h1)
      have HXo := Lib.hid (HOk.out _ (List.getElem_mem hkS))
      obtain ⟨x, hx⟩ : ∃ x, x = S[k] := ⟨_, rfl⟩
      rw [← hx] at HC HXo
      have HBr := Lib.hid HH.out.1.bel
      have HNx := Lib.hid (show next < 100000 from by have := HH.out.1.nk; omega)
      clear hx hkS hbl
      go_upto_region 11 with (fail)
      refine wp_region_held_drew (S := fun z => Below w.heap.size w z) (by kernel_rfl) HBr.out.drew (fun hS => ?_)
      refine wpAnyH_take (i := 0) (oi := ⟨_, _, _, _, _, _⟩) (v := ?v1) rfl (by kernel_rfl) (by kernel_rfl) (by kernel_rfl) (fun _ _ _ h => h) ?y1 hS ?_
      case y1 => first | (refine Or.inr ⟨by rfl, ?_⟩; with_reducible rfl) | (refine Or.inl ⟨by rfl, ?_⟩; intro wS hSw; obtain ⟨c0, c1, c2⟩ := HC.out wS hSw; go_simp; try with_reducible rfl)
      simp only [Act.put, List.setIfInBounds_toArray, List.set_cons_zero, List.set_cons_succ]
      refine wpAnyH_take (i := 1) (oi := ⟨_, _, _, _, _, _⟩) (v := ?v2) rfl (by kernel_rfl) (by kernel_rfl) (by kernel_rfl) (fun _ _ _ h => h) ?y2 hS ?_
      case y2 => first | (refine Or.inr ⟨by rfl, ?_⟩; with_reducible rfl) | (refine Or.inl ⟨by rfl, ?_⟩; intro wS hSw; obtain ⟨c0, c1, c2⟩ := HC.out wS hSw; go_simp; try with_reducible rfl)
      simp only [Act.put, List.setIfInBounds_toArray, List.set_cons_zero, List.set_cons_succ]
      refine wpAnyH_take (i := 2) (oi := ⟨_, _, _, _, _, _⟩) (v := ?v3) rfl (by kernel_rfl) (by kernel_rfl) (by kernel_rfl) (fun _ _ _ h => h) ?y3 hS ?_
      case y3 => first | (refine Or.inr ⟨by rfl, ?_⟩; with_reducible rfl) | (refine Or.inl ⟨by rfl, ?_⟩; intro wS hSw; obtain ⟨c0, c1, c2⟩ := HC.out wS hSw; go_simp; try with_reducible rfl)
      simp only [Act.put, List.setIfInBounds_toArray, List.set_cons_zero, List.set_cons_succ]
      refine wpAnyH_take (i := 3) (oi := ⟨_, _, _, _, _, _⟩) (v := ?v4) rfl (by kernel_rfl) (by kernel_rfl) (by kernel_rfl) (fun _ _ _ h => h) ?y4 hS ?_
      case y4 => first | (refine Or.inr ⟨by rfl, ?_⟩; with_reducible rfl) | (refine Or.inl ⟨by rfl, ?_⟩; intro wS hSw; obtain ⟨c0, c1, c2⟩ := HC.out wS hSw; go_simp; try with_reducible rfl)
      simp only [Act.put, List.setIfInBounds_toArray, List.set_cons_zero, List.set_cons_succ]
      refine wpAnyH_take (i := 4) (oi := ⟨_, _, _, _, _, _⟩) (v := ?v5) rfl (by kernel_rfl) (by kernel_rfl) (by kernel_rfl) (fun _ _ _ h => h) ?y5 hS ?_
      case y5 => first | (refine Or.inr ⟨by rfl, ?_⟩; with_reducible rfl) | (refine Or.inl ⟨by rfl, ?_⟩; intro wS hSw; obtain ⟨c0, c1, c2⟩ := HC.out wS hSw; go_simp; try with_reducible rfl)
      simp only [Act.put, List.setIfInBounds_toArray, List.set_cons_zero, List.set_cons_succ]
      refine wpAnyH_take (i := 5) (oi := ⟨_, _, _, _, _, _⟩) (v := ?v6) rfl (by kernel_rfl) (by kernel_rfl) (by kernel_rfl) (fun _ _ _ h => h) ?y6 hS ?_
      case y6 => first | (refine Or.inr ⟨by rfl, ?_⟩; with_reducible rfl) | (refine Or.inl ⟨by rfl, ?_⟩; intro wS hSw; obtain ⟨c0, c1, c2⟩ := HC.out wS hSw; go_simp; try with_reducible rfl)
      simp only [Act.put, List.setIfInBounds_toArray, List.set_cons_zero, List.set_cons_succ]
      refine wpAnyH_ready (rs := [6]) (by kernel_rfl) (by simp) ?_
      refine AllReadyH.cons (o := ⟨_, _, _, _, _, _⟩) rfl (fun K hK => ?_) AllReadyH.nil
      go_simp
      refine (some_any k _).mono ?_
      rintro e w3 ⟨rfl, hb3⟩
      go_wp2_with fail
      have hS3 := hS.trans (hb3.mono hS.size)
      refine hK.out _ _ hS3 (fun hSd => ?_)
      clear hSd hK K
      try simp only [Act.put, List.setIfInBounds_toArray, List.set_cons_zero, List.set_cons_succ]
      have hd3 := (Below.refl wr.heap.size wr).drew.trans hb3
      have HH3 := Lib.hid (HH.out.1.later hd3)
      have HX3 := Lib.hid ((hd3.block _ (lt_of_block HH.out.2)).trans HH.out.2)
      clear hb3 hS HH HBr hd3
      refine wpAnyH_ready (rs := [7]) (by kernel_rfl) (by simp) ?_
      refine AllReadyH.cons (o := ⟨_, _, _, _, _, _⟩) rfl (fun K hK => ?_) AllReadyH.nil
      go_simp
      by_cases hin : hasK L x = true
      · refine (mPutO_any (k := x) (someX k) w3 HH3.out.me HXo.out (nil_tw w3) (nil_iv w3) (by simp [someX]) (by simp [someX]) (by omega) hin).mono ?_
        rintro e w4 ⟨rfl, tv, kv, hm, hk⟩
        obtain ⟨xe, hxe⟩ : ∃ e : Ent, e = ⟨(someX k).is, (someX k).en, (someX k).far, (someX k).tree, (someX k).tou, tv, kv⟩ := ⟨_, rfl⟩
        rw [← hxe] at hm
        have HXe := Lib.hid (show xe.tree = [] ∧ xe.tou = [] from by rw [hxe]; exact ⟨rfl, rfl⟩)
        go_wp2_with fail
        have hS4 := hS3.trans (hk.below hS3.size)
        refine hK.out _ _ hS4 (fun hSd => ?_)
        clear hSd hK K
        try simp only [Act.put, List.setIfInBounds_toArray, List.set_cons_zero, List.set_cons_succ]
        have HF := Lib.hid (show ClS w w4 p q nm km em (k + 1) (next) (max peak L.length) (setK L x xe) ∧ w4.heap[X]? = some (.cells #[.int .i64 kk.rule, .int .i64 kk.level, .int .i64 kk.place] 31 (0, 0)) from ⟨⟨hm, by rw [setK_len]; have := HH3.out.ln; omega, by have := HH3.out.nk; omega, fun r hr => by obtain ⟨a, ha, -, -, h1 | h1⟩ := mem_setK hr; rw [h1]; exact HH3.out.nx a ha; rw [h1]; exact HXe.out, hS4⟩, hk.cells HX3.out (by decide)⟩)
        clear hm hk hS3
        refine wpAnyH_done (by kernel_rfl) ?_ _
        clear hS4
        go_wp2
        go_roundw
        case rel => exact ⟨k + 1, _, _, _, by omega, by go_num, HF⟩
        case measure => simp [intOf]; omega
      · refine (mPutN_any (k := x) (someX k) w3 HH3.out.me HXo.out (nil_tw w3) (nil_iv w3) (by simp [someX]) (by simp [someX]) (by omega) (by cases hf : fndK L x with | none => rfl | some a => exact absurd (by unfold hasK; rw [hf]; rfl) hin) HNx.out (by have := HH3.out.ln; omega)).mono ?_
        rintro e w4 ⟨rfl, tv, kv, hm, hk⟩
        obtain ⟨xe, hxe⟩ : ∃ e : Ent, e = ⟨(someX k).is, (someX k).en, (someX k).far, (someX k).tree, (someX k).tou, tv, kv⟩ := ⟨_, rfl⟩
        rw [← hxe] at hm
        have HXe := Lib.hid (show xe.tree = [] ∧ xe.tou = [] from by rw [hxe]; exact ⟨rfl, rfl⟩)
        go_wp2_with fail
        have hS4 := hS3.trans (hk.below hS3.size)
        refine hK.out _ _ hS4 (fun hSd => ?_)
        clear hSd hK K
        try simp only [Act.put, List.setIfInBounds_toArray, List.set_cons_zero, List.set_cons_succ]
        have HF := Lib.hid (show ClS w w4 p q nm km em (k + 1) (next + 1) (max peak (L.length + 1)) (L ++ [(⟨x, next, xe⟩ : Rec)]) ∧ w4.heap[X]? = some (.cells #[.int .i64 kk.rule, .int .i64 kk.level, .int .i64 kk.place] 31 (0, 0)) from ⟨⟨hm, by have := HH3.out.ln; simp; omega, by have := HH3.out.nk; omega, fun r hr => by rcases List.mem_append.1 hr with hr | hr; exact HH3.out.nx r hr; simp at hr; subst hr; exact HXe.out, hS4⟩, hk.cells HX3.out (by decide)⟩)
        clear hm hk hS3
        refine wpAnyH_done (by kernel_rfl) ?_ _
        clear hS4
        go_wp2
        go_roundw
        case rel => exact ⟨k + 1, _, _, _, by omega, by go_num, HF⟩
        case measure => simp [intOf]; omega
    · obtain rfl : k = n := by omega
      have hlt2 : ¬ (k : Int) < k := by omega
      have HXr := Lib.hid HH.out.2
      go_wp2_with fail
      refine (mKeys_any wr HH.out.1.me).mono ?_
      rintro e w3 ⟨av, T, hT, rfl, ho, hb⟩
      have HT := Lib.hid hT
      have HH3 := Lib.hid (HH.out.1.later hb)
      obtain ⟨ta, tc, rfl⟩ := own_val ho
      obtain ⟨tn, htn⟩ : ∃ t, t = T.length := ⟨_, rfl⟩
      have HTn := Lib.hid htn
      have htl : tn = L.length := by rw [htn, hT.1.length_eq, List.length_map]
      have HTl := Lib.hid htl
      have htk : tn ≤ 200 := by have := HH3.out.ln; omega
      rw [← htn] at ho ⊢
      have HR3 := Lib.hid (ownsRow_base ho HH.out.1.bel.size)
      have HX3 := Lib.hid ((hb.block _ (lt_of_block HXr.out)).trans HXr.out)
      clear hT ho hb htn htl HXr HH
      go_wp2_with fail
      refine (mCopy_any w3 HH3.out.me (fun r hr => by rw [(HH3.out.nx r hr).1, (HH3.out.nx r hr).2]; simp)).mono ?_
      rintro e wc ⟨p2, q2, nm2, km2, em2, L2, rfl, hpl, ho2, hb⟩
      have HPl := Lib.hid hpl
      have HMo := Lib.hid ho2
      have HBc := Lib.hid hb
      have HXc := Lib.hid ((hb.block _ (lt_of_block HX3.out)).trans HX3.out)
      have HRc := Lib.hid (row_later HR3.out hb)
      have HMi := Lib.hid (@MeIs.rewatch noWatch _ _ _ _ _ _ _ _ _ _ _ _ HH3.out.me hb (cpW w3.heap.size wc.heap.size) (fun k hk => .inr hk.1) (Nat.le_refl _))
      have HBw := Lib.hid (HH3.out.bel.trans (hb.mono HH3.out.bel.size))
      clear hpl ho2 hb HX3 HR3
      go_wp2_with fail
      refine (@mClear_any (cpW w3.heap.size wc.heap.size) _ _ _ _ _ _ _ _ _ _ pl wc HMi.out).mono ?_
      rintro e wd ⟨rfl, hm, hk⟩
      have HMd := Lib.hid hm
      have HOd := Lib.hid (HMo.out.watched (cpW w3.heap.size wc.heap.size) hk (fun k h1 h2 => ⟨h1, h2⟩))
      have HXd := Lib.hid (@KeepM.cells (cpW w3.heap.size wc.heap.size) _ _ _ hk _ _ _ _ HXc.out (by decide))
      have HRd := Lib.hid (@KeepM.row (cpW w3.heap.size wc.heap.size) _ _ _ _ _ _ _ _ _ hk HRc.out (by decide))
      have HBd := Lib.hid (HBw.out.trans (@KeepM.below (cpW w3.heap.size wc.heap.size) _ _ _ hk HBw.out.size))
      have HSz := Lib.hid (show wc.heap.size ≤ wd.heap.size from hk.size)
      obtain ⟨cn, hcn⟩ : ∃ cn : Int, cn = (L.length : Int) - (clrK L pl).length := ⟨_, rfl⟩
      have HCn := Lib.hid hcn
      rw [← hcn]
      clear hm hk hcn HMi HMo HXc HRc HBw
      go_wp2
      go_loopw [13] (fun i wr => ∃ j : Nat, j ≤ tn ∧ i = .int .i64 j ∧ Hid (Below wd.heap.size wd wr)) (fun i _ => tn - (intOf i).toNat)
      case atStart => exact ⟨0, Nat.zero_le _, rfl, Lib.hid (Below.refl _ _)⟩
      case round =>
        obtain ⟨j, hj, rfl, HW⟩ := hrel
        by_cases hjt : j < tn
        · have hjt2 : (j : Int) < tn := by omega
          have hjT : j < T.length := by rw [← HTn.out]; exact hjt
          have HA := Lib.hid (show KyAt wd (.slice ta T.length tc) T from KyOwn.at (by have := HRd.out; rw [HTn.out] at this; exact this))
          obtain ⟨b, off, rfl, -, -⟩ := HA.out.cells.2.2 j hjT
          have HCs := Lib.hid (show ∀ wS, Below wd.heap.size wd wS → ∀ i (hi : i < T.length), wS.cell? ⟨b, off + i * 3, none⟩ = some (.int .i64 T[i].rule) ∧ wS.cell? ⟨b, off + i * 3 + 1, none⟩ = some (.int .i64 T[i].level) ∧ wS.cell? ⟨b, off + i * 3 + 2, none⟩ = some (.int .i64 T[i].place) from fun wS hw i hi => by
            obtain ⟨b2, off2, e, -, h1⟩ := (HA.out.later hw).cells.2.2 i hi
            simp only [Option.some.injEq, Addr.mk.injEq, and_true] at e
            obtain ⟨rfl, rfl⟩ := e
            exact h1)
          have HFo := Lib.hid (both_fnd HPl.out (HT.out.1.mem_iff.1 (List.getElem_mem hjT)) HH3.out.nx)
          have HFm := Lib.hid (clrK_fnd HH3.out.me.ln.ord.once pl T[j])
          have HOk2 := Lib.hid (show kyOk T[j] from by obtain ⟨a, ha, hk⟩ := List.mem_map.1 (HT.out.1.mem_iff.1 (List.getElem_mem hjT)); rw [← hk]; exact HH3.out.me.ln.ord.wf _ ha)
          have HPv := Lib.hid (show ∀ i (h0 : i < T.length), i + 1 = j → T[i].place ≤ T[j].place from fun i h0 hi => le_place (List.pairwise_iff_getElem.1 HT.out.2 i j h0 hjT (by omega)))
          have HC := Lib.hid (show ∀ wS, Below wd.heap.size wd wS → wS.cell? ⟨b, off + j * 3, none⟩ = some (.int .i64 T[j].rule) ∧ wS.cell? ⟨b, off + j * 3 + 1, none⟩ = some (.int .i64 T[j].level) ∧ wS.cell? ⟨b, off + j * 3 + 2, none⟩ = some (.int .i64 T[j].place) from fun wS hw => HCs.out wS hw j hjT)
          have HCp := Lib.hid (show ∀ wS, Below wd.heap.size wd wS → ∀ i (h0 : i < T.length), i + 1 = j → wS.cell? ⟨b, off + i * 3 + 2, none⟩ = some (.int .i64 T[i].place) from fun wS hw i h0 _ => (HCs.out wS hw i h0).2.2)
          obtain ⟨x, hx⟩ : ∃ x, x = T[j] := ⟨_, rfl⟩
          rw [← hx] at HC HOk2 HFm HFo
          have HPw := Lib.hid (show ∀ i (h0 : i < T.length), i + 1 = j → T[i].place ≤ x.place from fun i h0 hi => by rw [hx]; exact HPv.out i h0 hi)
          obtain ⟨ra, rb, hra, hrb, hen, hna, hnb⟩ := HFo.out
          have HRa := Lib.hid hra
          have HRb := Lib.hid (And.intro hrb hnb)
          have HEn := Lib.hid hen
          have HNa := Lib.hid hna
          clear hx hjT HA HCs HPv HFo hra hrb hen hna hnb
          by_cases hp : x.place = pl

          · skip
            have HMr := Lib.hid (@MeIs.later (cpW w3.heap.size wc.heap.size) _ _ _ _ _ _ _ _ _ _ _ _ HMd.out HW.out)
            have HOr := Lib.hid (HOd.out.later HW.out)
            obtain ⟨c0, c1, c2⟩ := HC.out wr HW.out
            have hp2 : (x.place == pl) = true := by simpa using hp
            have hp3 : (x.place != pl) = false := by simpa using hp
            have HP := Lib.hid hp
            clear hp
            go_wp2_with fail
            refine (@mGetN_any (cpW w3.heap.size wc.heap.size) _ _ _ _ _ _ _ _ _ _ _ wr HMr.out HOk2.out (by rw [HFm.out, if_pos HP.out])).mono ?_
            rintro e z1 ⟨rfl, hb⟩
            have HB1 := Lib.hid (HW.out.trans (hb.mono HW.out.size))
            have HO1 := Lib.hid (HOr.out.later hb)
            clear hb c0 c1 c2 HMr HOr
            go_upto_region 19 with (fail)
            refine gen_world (S := fun z => Below z1.heap.size z1 z ∧ z.heap[z1.heap.size]? = some (.cells #[.bool false, .int .i64 0, .int .i64 0, .slice none 0 0, .slice none 0 0] 37 (0, 0))) (one_new z1 _) (fun z2 hz => ?_)
            obtain ⟨hb, hx⟩ := hz
            obtain ⟨Y, hY⟩ : ∃ Y, Y = z1.heap.size := ⟨_, rfl⟩
            rw [← hY] at hx ⊢
            have HB2 := Lib.hid (HB1.out.trans (hb.mono HB1.out.size))
            have HO2 := Lib.hid (HO1.out.later hb)
            have HY2 := Lib.hid hx
            clear hb hx hY HO1 HB1
            obtain ⟨c0, c1, c2⟩ := HC.out z2 HB2.out
            go_wp2_with fail
            refine (mGet_any (r := rb) z2 HO2.out HRb.out.1 (by rw [HRb.out.2.1]; simp) (by rw [HRb.out.2.2]; simp)).mono ?_
            rintro e z3 ⟨tv2, kv2, rfl, ho1, ho2, hb⟩
            obtain ⟨xa2, xc2, rfl⟩ := own_val ho1
            obtain ⟨ya2, yc2, rfl⟩ := own_val ho2
            have HB3 := Lib.hid (HB2.out.trans (hb.mono HB2.out.size))
            have HY3 := Lib.hid ((hb.block _ (lt_of_block HY2.out)).trans HY2.out)
            clear ho1 ho2 hb c0 c1 c2 HO2 HY2 HB2
            go_upto_region 20 with (fail)
            refine gen_world (S := fun z => Below z3.heap.size z3 z ∧ z.heap[z3.heap.size]? = some (.cells #[.bool rb.x.is, .int .i64 rb.x.en, .int .i64 rb.x.far, .slice xa2 rb.x.tree.length xc2, .slice ya2 rb.x.tou.length yc2] 37 (0, 0))) (one_new z3 _) (fun z4 hz => ?_)
            obtain ⟨hb, hx⟩ := hz
            obtain ⟨Z, hZ⟩ : ∃ Z, Z = z3.heap.size := ⟨_, rfl⟩
            rw [← hZ] at hx ⊢
            have HB4 := Lib.hid (HB3.out.trans (hb.mono HB3.out.size))
            have hy := (hb.block _ (lt_of_block HY3.out)).trans HY3.out
            obtain ⟨⟨-, y1, -⟩, -⟩ := five_box hx
            obtain ⟨⟨-, v1, -⟩, -⟩ := five_box hy
            obtain ⟨c0, c1, c2⟩ := HC.out z4 HB4.out
            rw [HEn.out] at y1
            clear hb hx hy hZ HY3 HB3
            rcases Nat.eq_zero_or_pos j with hj0 | hj0
            · have hj1 : decide ((0 : Int) < (j : Int)) = false := by simp [hj0]
              have hj2 : decide (0 < j) = false := by simp [hj0]
              clear hj0
              refine wp_region_held_drew (S := fun z => Below wd.heap.size wd z ∧ z.cell? ⟨Y, 1, none⟩ = some (.int .i64 0) ∧ z.cell? ⟨Z, 1, none⟩ = some (.int .i64 ra.x.en)) (by kernel_rfl) ⟨HB4.out.drew, v1, y1⟩ (fun hS => ?_)
              clear v1 y1 c0 c1 c2 
              refine wpAnyH_take (i := 0) (oi := ⟨_, _, _, _, _, _⟩) (v := ?v7) rfl (by kernel_rfl) (by kernel_rfl) (by kernel_rfl) (fun _ _ _ h => h) ?y7 hS ?_
              case y7 => first | (refine Or.inr ⟨by rfl, ?_⟩; with_reducible rfl) | (refine Or.inl ⟨by rfl, ?_⟩; intro wS hSw; obtain ⟨hB, v1, y1⟩ := hSw; obtain ⟨c0, c1, c2⟩ := HC.out wS hB; go_simp; try with_reducible rfl)
              simp only [Act.put, List.setIfInBounds_toArray, List.set_cons_zero, List.set_cons_succ]
              refine wpAnyH_take (i := 1) (oi := ⟨_, _, _, _, _, _⟩) (v := ?v8) rfl (by kernel_rfl) (by kernel_rfl) (by kernel_rfl) (fun _ _ _ h => h) ?y8 hS ?_
              case y8 => first | (refine Or.inr ⟨by rfl, ?_⟩; with_reducible rfl) | (refine Or.inl ⟨by rfl, ?_⟩; intro wS hSw; obtain ⟨hB, v1, y1⟩ := hSw; obtain ⟨c0, c1, c2⟩ := HC.out wS hB; go_simp; try with_reducible rfl)
              simp only [Act.put, List.setIfInBounds_toArray, List.set_cons_zero, List.set_cons_succ]
              refine wpAnyH_take (i := 2) (oi := ⟨_, _, _, _, _, _⟩) (v := ?v9) rfl (by kernel_rfl) (by kernel_rfl) (by kernel_rfl) (fun _ _ _ h => h) ?y9 hS ?_
              case y9 => first | (refine Or.inr ⟨by rfl, ?_⟩; with_reducible rfl) | (refine Or.inl ⟨by rfl, ?_⟩; intro wS hSw; obtain ⟨hB, v1, y1⟩ := hSw; obtain ⟨c0, c1, c2⟩ := HC.out wS hB; go_simp; try with_reducible rfl)
              simp only [Act.put, List.setIfInBounds_toArray, List.set_cons_zero, List.set_cons_succ]
              refine wpAnyH_take (i := 3) (oi := ⟨_, _, _, _, _, _⟩) (v := ?v10) rfl (by kernel_rfl) (by kernel_rfl) (by kernel_rfl) (fun _ _ _ h => h) ?y10 hS ?_
              case y10 => first | (refine Or.inr ⟨by rfl, ?_⟩; with_reducible rfl) | (refine Or.inl ⟨by rfl, ?_⟩; intro wS hSw; obtain ⟨hB, v1, y1⟩ := hSw; obtain ⟨c0, c1, c2⟩ := HC.out wS hB; go_simp; try with_reducible rfl)
              simp only [Act.put, List.setIfInBounds_toArray, List.set_cons_zero, List.set_cons_succ]
              refine wpAnyH_take (i := 4) (oi := ⟨_, _, _, _, _, _⟩) (v := ?v11) rfl (by kernel_rfl) (by kernel_rfl) (by kernel_rfl) (fun _ _ _ h => h) ?y11 hS ?_
              case y11 => first | (refine Or.inr ⟨by rfl, ?_⟩; with_reducible rfl) | (refine Or.inl ⟨by rfl, ?_⟩; intro wS hSw; obtain ⟨hB, v1, y1⟩ := hSw; obtain ⟨c0, c1, c2⟩ := HC.out wS hB; go_simp; try with_reducible rfl)
              simp only [Act.put, List.setIfInBounds_toArray, List.set_cons_zero, List.set_cons_succ]
              refine wpAnyH_take (i := 5) (oi := ⟨_, _, _, _, _, _⟩) (v := ?v12) rfl (by kernel_rfl) (by kernel_rfl) (by kernel_rfl) (fun _ _ _ h => h) ?y12 hS ?_
              case y12 => first | (refine Or.inr ⟨by rfl, ?_⟩; with_reducible rfl) | (refine Or.inl ⟨by rfl, ?_⟩; intro wS hSw; obtain ⟨hB, v1, y1⟩ := hSw; obtain ⟨c0, c1, c2⟩ := HC.out wS hB; go_simp; try with_reducible rfl)
              simp only [Act.put, List.setIfInBounds_toArray, List.set_cons_zero, List.set_cons_succ]
              refine wpAnyH_take (i := 6) (oi := ⟨_, _, _, _, _, _⟩) (v := ?v13) rfl (by kernel_rfl) (by kernel_rfl) (by kernel_rfl) (fun _ _ _ h => h) ?y13 hS ?_
              case y13 => first | (refine Or.inr ⟨by rfl, ?_⟩; with_reducible rfl) | (refine Or.inl ⟨by rfl, ?_⟩; intro wS hSw; obtain ⟨hB, v1, y1⟩ := hSw; obtain ⟨c0, c1, c2⟩ := HC.out wS hB; go_simp; try with_reducible rfl)
              simp only [Act.put, List.setIfInBounds_toArray, List.set_cons_zero, List.set_cons_succ]
              refine wpAnyH_take (i := 7) (oi := ⟨_, _, _, _, _, _⟩) (v := ?v14) rfl (by kernel_rfl) (by kernel_rfl) (by kernel_rfl) (fun _ _ _ h => h) ?y14 hS ?_
              case y14 => first | (refine Or.inr ⟨by rfl, ?_⟩; with_reducible rfl) | (refine Or.inl ⟨by rfl, ?_⟩; intro wS hSw; obtain ⟨hB, v1, y1⟩ := hSw; obtain ⟨c0, c1, c2⟩ := HC.out wS hB; go_simp; try with_reducible rfl)
              simp only [Act.put, List.setIfInBounds_toArray, List.set_cons_zero, List.set_cons_succ]
              refine wpAnyH_take (i := 8) (oi := ⟨_, _, _, _, _, _⟩) (v := ?v15) rfl (by kernel_rfl) (by kernel_rfl) (by kernel_rfl) (fun _ _ _ h => h) ?y15 hS ?_
              case y15 => first | (refine Or.inr ⟨by rfl, ?_⟩; with_reducible rfl) | (refine Or.inl ⟨by rfl, ?_⟩; intro wS hSw; obtain ⟨hB, v1, y1⟩ := hSw; obtain ⟨c0, c1, c2⟩ := HC.out wS hB; go_simp; try with_reducible rfl)
              simp only [Act.put, List.setIfInBounds_toArray, List.set_cons_zero, List.set_cons_succ]
              refine wpAnyH_take (i := 9) (oi := ⟨_, _, _, _, _, _⟩) (v := ?v16) rfl (by kernel_rfl) (by kernel_rfl) (by kernel_rfl) (fun _ _ _ h => h) ?y16 hS ?_
              case y16 => first | (refine Or.inr ⟨by rfl, ?_⟩; with_reducible rfl) | (refine Or.inl ⟨by rfl, ?_⟩; intro wS hSw; obtain ⟨hB, v1, y1⟩ := hSw; obtain ⟨c0, c1, c2⟩ := HC.out wS hB; go_simp; try with_reducible rfl)
              simp only [Act.put, List.setIfInBounds_toArray, List.set_cons_zero, List.set_cons_succ]
              refine wpAnyH_take (i := 10) (oi := ⟨_, _, _, _, _, _⟩) (v := ?v17) rfl (by kernel_rfl) (by kernel_rfl) (by kernel_rfl) (fun _ _ _ h => h) ?y17 hS ?_
              case y17 => first | (refine Or.inr ⟨by rfl, ?_⟩; with_reducible rfl) | (refine Or.inl ⟨by rfl, ?_⟩; intro wS hSw; obtain ⟨hB, v1, y1⟩ := hSw; obtain ⟨c0, c1, c2⟩ := HC.out wS hB; go_simp; try with_reducible rfl)
              simp only [Act.put, List.setIfInBounds_toArray, List.set_cons_zero, List.set_cons_succ]
              refine wpAnyH_take (i := 11) (oi := ⟨_, _, _, _, _, _⟩) (v := ?v18) rfl (by kernel_rfl) (by kernel_rfl) (by kernel_rfl) (fun _ _ _ h => h) ?y18 hS ?_
              case y18 => first | (refine Or.inr ⟨by rfl, ?_⟩; with_reducible rfl) | (refine Or.inl ⟨by rfl, ?_⟩; intro wS hSw; obtain ⟨hB, v1, y1⟩ := hSw; obtain ⟨c0, c1, c2⟩ := HC.out wS hB; go_simp; try with_reducible rfl)
              simp only [Act.put, List.setIfInBounds_toArray, List.set_cons_zero, List.set_cons_succ]
              refine wpAnyH_take (i := 12) (oi := ⟨_, _, _, _, _, _⟩) (v := ?v19) rfl (by kernel_rfl) (by kernel_rfl) (by kernel_rfl) (fun _ _ _ h => h) ?y19 hS ?_
              case y19 => first | (refine Or.inr ⟨by rfl, ?_⟩; with_reducible rfl) | (refine Or.inl ⟨by rfl, ?_⟩; intro wS hSw; obtain ⟨hB, v1, y1⟩ := hSw; obtain ⟨c0, c1, c2⟩ := HC.out wS hB; go_simp; try with_reducible rfl)
              simp only [Act.put, List.setIfInBounds_toArray, List.set_cons_zero, List.set_cons_succ]
              refine wpAnyH_take (i := 13) (oi := ⟨_, _, _, _, _, _⟩) (v := ?v20) rfl (by kernel_rfl) (by kernel_rfl) (by kernel_rfl) (fun _ _ _ h => h) ?y20 hS ?_
              case y20 => first | (refine Or.inr ⟨by rfl, ?_⟩; with_reducible rfl) | (refine Or.inl ⟨by rfl, ?_⟩; intro wS hSw; obtain ⟨hB, v1, y1⟩ := hSw; obtain ⟨c0, c1, c2⟩ := HC.out wS hB; go_simp; try with_reducible rfl)
              simp only [Act.put, List.setIfInBounds_toArray, List.set_cons_zero, List.set_cons_succ]
              refine wpAnyH_take (i := 14) (oi := ⟨_, _, _, _, _, _⟩) (v := ?v21) rfl (by kernel_rfl) (by kernel_rfl) (by kernel_rfl) (fun _ _ _ h => h) ?y21 hS ?_
              case y21 => first | (refine Or.inr ⟨by rfl, ?_⟩; with_reducible rfl) | (refine Or.inl ⟨by rfl, ?_⟩; intro wS hSw; obtain ⟨hB, v1, y1⟩ := hSw; obtain ⟨c0, c1, c2⟩ := HC.out wS hB; go_simp; try with_reducible rfl)
              simp only [Act.put, List.setIfInBounds_toArray, List.set_cons_zero, List.set_cons_succ]
              refine wpAnyH_take (i := 15) (oi := ⟨_, _, _, _, _, _⟩) (v := ?v22) rfl (by kernel_rfl) (by kernel_rfl) (by kernel_rfl) (fun _ _ _ h => h) ?y22 hS ?_
              case y22 => first | (refine Or.inr ⟨by rfl, ?_⟩; with_reducible rfl) | (refine Or.inl ⟨by rfl, ?_⟩; intro wS hSw; obtain ⟨hB, v1, y1⟩ := hSw; obtain ⟨c0, c1, c2⟩ := HC.out wS hB; go_simp; try with_reducible rfl)
              simp only [Act.put, List.setIfInBounds_toArray, List.set_cons_zero, List.set_cons_succ]
              refine wpAnyH_take (i := 16) (oi := ⟨_, _, _, _, _, _⟩) (v := ?v23) rfl (by kernel_rfl) (by kernel_rfl) (by kernel_rfl) (fun _ _ _ h => h) ?y23 hS ?_
              case y23 => first | (refine Or.inr ⟨by rfl, ?_⟩; with_reducible rfl) | (refine Or.inl ⟨by rfl, ?_⟩; intro wS hSw; obtain ⟨hB, v1, y1⟩ := hSw; obtain ⟨c0, c1, c2⟩ := HC.out wS hB; go_simp; try with_reducible rfl)
              simp only [Act.put, List.setIfInBounds_toArray, List.set_cons_zero, List.set_cons_succ]
              refine wpAnyH_take (i := 17) (oi := ⟨_, _, _, _, _, _⟩) (v := ?v24) rfl (by kernel_rfl) (by kernel_rfl) (by kernel_rfl) (fun _ _ _ h => h) ?y24 hS ?_
              case y24 => first | (refine Or.inr ⟨by rfl, ?_⟩; with_reducible rfl) | (refine Or.inl ⟨by rfl, ?_⟩; intro wS hSw; obtain ⟨hB, v1, y1⟩ := hSw; obtain ⟨c0, c1, c2⟩ := HC.out wS hB; go_simp; try with_reducible rfl)
              simp only [Act.put, List.setIfInBounds_toArray, List.set_cons_zero, List.set_cons_succ]
              refine wpAnyH_take (i := 18) (oi := ⟨_, _, _, _, _, _⟩) (v := ?v25) rfl (by kernel_rfl) (by kernel_rfl) (by kernel_rfl) (fun _ _ _ h => h) ?y25 hS ?_
              case y25 => first | (refine Or.inr ⟨by rfl, ?_⟩; with_reducible rfl) | (refine Or.inl ⟨by rfl, ?_⟩; intro wS hSw; obtain ⟨hB, v1, y1⟩ := hSw; obtain ⟨c0, c1, c2⟩ := HC.out wS hB; go_simp; try with_reducible rfl)
              simp only [Act.put, List.setIfInBounds_toArray, List.set_cons_zero, List.set_cons_succ]
              refine wpAnyH_take (i := 19) (oi := ⟨_, _, _, _, _, _⟩) (v := ?v26) rfl (by kernel_rfl) (by kernel_rfl) (by kernel_rfl) (fun _ _ _ h => h) ?y26 hS ?_
              case y26 => first | (refine Or.inr ⟨by rfl, ?_⟩; with_reducible rfl) | (refine Or.inl ⟨by rfl, ?_⟩; intro wS hSw; obtain ⟨hB, v1, y1⟩ := hSw; obtain ⟨c0, c1, c2⟩ := HC.out wS hB; go_simp; try with_reducible rfl)
              simp only [Act.put, List.setIfInBounds_toArray, List.set_cons_zero, List.set_cons_succ]
              refine wpAnyH_take (i := 20) (oi := ⟨_, _, _, _, _, _⟩) (v := ?v27) rfl (by kernel_rfl) (by kernel_rfl) (by kernel_rfl) (fun _ _ _ h => h) ?y27 hS ?_
              case y27 => first | (refine Or.inr ⟨by rfl, ?_⟩; with_reducible rfl) | (refine Or.inl ⟨by rfl, ?_⟩; intro wS hSw; obtain ⟨hB, v1, y1⟩ := hSw; obtain ⟨c0, c1, c2⟩ := HC.out wS hB; go_simp; try with_reducible rfl)
              simp only [Act.put, List.setIfInBounds_toArray, List.set_cons_zero, List.set_cons_succ]
              refine wpAnyH_take (i := 21) (oi := ⟨_, _, _, _, _, _⟩) (v := ?v28) rfl (by kernel_rfl) (by kernel_rfl) (by kernel_rfl) (fun _ _ _ h => h) ?y28 hS ?_
              case y28 => first | (refine Or.inr ⟨by rfl, ?_⟩; with_reducible rfl) | (refine Or.inl ⟨by rfl, ?_⟩; intro wS hSw; obtain ⟨hB, v1, y1⟩ := hSw; obtain ⟨c0, c1, c2⟩ := HC.out wS hB; go_simp; try with_reducible rfl)
              simp only [Act.put, List.setIfInBounds_toArray, List.set_cons_zero, List.set_cons_succ]
              refine wpAnyH_take (i := 22) (oi := ⟨_, _, _, _, _, _⟩) (v := ?v29) rfl (by kernel_rfl) (by kernel_rfl) (by kernel_rfl) (fun _ _ _ h => h) ?y29 hS ?_
              case y29 => first | (refine Or.inr ⟨by rfl, ?_⟩; with_reducible rfl) | (refine Or.inl ⟨by rfl, ?_⟩; intro wS hSw; obtain ⟨hB, v1, y1⟩ := hSw; obtain ⟨c0, c1, c2⟩ := HC.out wS hB; go_simp; try with_reducible rfl)
              simp only [Act.put, List.setIfInBounds_toArray, List.set_cons_zero, List.set_cons_succ]
              refine wpAnyH_take (i := 23) (oi := ⟨_, _, _, _, _, _⟩) (v := ?v30) rfl (by kernel_rfl) (by kernel_rfl) (by kernel_rfl) (fun _ _ _ h => h) ?y30 hS ?_
              case y30 => first | (refine Or.inr ⟨by rfl, ?_⟩; with_reducible rfl) | (refine Or.inl ⟨by rfl, ?_⟩; intro wS hSw; obtain ⟨hB, v1, y1⟩ := hSw; obtain ⟨c0, c1, c2⟩ := HC.out wS hB; go_simp; try with_reducible rfl)
              simp only [Act.put, List.setIfInBounds_toArray, List.set_cons_zero, List.set_cons_succ]
              refine wpAnyH_take (i := 24) (oi := ⟨_, _, _, _, _, _⟩) (v := ?v31) rfl (by kernel_rfl) (by kernel_rfl) (by kernel_rfl) (fun _ _ _ h => h) ?y31 hS ?_
              case y31 => first | (refine Or.inr ⟨by rfl, ?_⟩; with_reducible rfl) | (refine Or.inl ⟨by rfl, ?_⟩; intro wS hSw; obtain ⟨hB, v1, y1⟩ := hSw; obtain ⟨c0, c1, c2⟩ := HC.out wS hB; go_simp; try with_reducible rfl)
              simp only [Act.put, List.setIfInBounds_toArray, List.set_cons_zero, List.set_cons_succ]
              refine wpAnyH_take (i := 25) (oi := ⟨_, _, _, _, _, _⟩) (v := ?v32) rfl (by kernel_rfl) (by kernel_rfl) (by kernel_rfl) (fun _ _ _ h => h) ?y32 hS ?_
              case y32 => first | (refine Or.inr ⟨by rfl, ?_⟩; with_reducible rfl) | (refine Or.inl ⟨by rfl, ?_⟩; intro wS hSw; obtain ⟨hB, v1, y1⟩ := hSw; obtain ⟨c0, c1, c2⟩ := HC.out wS hB; go_simp; try with_reducible rfl)
              simp only [Act.put, List.setIfInBounds_toArray, List.set_cons_zero, List.set_cons_succ]
              refine wpAnyH_take (i := 26) (oi := ⟨_, _, _, _, _, _⟩) (v := ?v33) rfl (by kernel_rfl) (by kernel_rfl) (by kernel_rfl) (fun _ _ _ h => h) ?y33 hS ?_
              case y33 => first | (refine Or.inr ⟨by rfl, ?_⟩; with_reducible rfl) | (refine Or.inl ⟨by rfl, ?_⟩; intro wS hSw; obtain ⟨hB, v1, y1⟩ := hSw; obtain ⟨c0, c1, c2⟩ := HC.out wS hB; go_simp; try with_reducible rfl)
              simp only [Act.put, List.setIfInBounds_toArray, List.set_cons_zero, List.set_cons_succ]
              refine wpAnyH_take (i := 27) (oi := ⟨_, _, _, _, _, _⟩) (v := ?v34) rfl (by kernel_rfl) (by kernel_rfl) (by kernel_rfl) (fun _ _ _ h => h) ?y34 hS ?_
              case y34 => first | (refine Or.inr ⟨by rfl, ?_⟩; with_reducible rfl) | (refine Or.inl ⟨by rfl, ?_⟩; intro wS hSw; obtain ⟨hB, v1, y1⟩ := hSw; obtain ⟨c0, c1, c2⟩ := HC.out wS hB; go_simp; try with_reducible rfl)
              simp only [Act.put, List.setIfInBounds_toArray, List.set_cons_zero, List.set_cons_succ]
              refine wpAnyH_take (i := 28) (oi := ⟨_, _, _, _, _, _⟩) (v := ?v35) rfl (by kernel_rfl) (by kernel_rfl) (by kernel_rfl) (fun _ _ _ h => h) ?y35 hS ?_
              case y35 => first | (refine Or.inr ⟨by rfl, ?_⟩; with_reducible rfl) | (refine Or.inl ⟨by rfl, ?_⟩; intro wS hSw; obtain ⟨hB, v1, y1⟩ := hSw; obtain ⟨c0, c1, c2⟩ := HC.out wS hB; go_simp; try with_reducible rfl)
              simp only [Act.put, List.setIfInBounds_toArray, List.set_cons_zero, List.set_cons_succ]
              refine wpAnyH_take (i := 29) (oi := ⟨_, _, _, _, _, _⟩) (v := ?v36) rfl (by kernel_rfl) (by kernel_rfl) (by kernel_rfl) (fun _ _ _ h => h) ?y36 hS ?_
              case y36 => first | (refine Or.inr ⟨by rfl, ?_⟩; with_reducible rfl) | (refine Or.inl ⟨by rfl, ?_⟩; intro wS hSw; obtain ⟨hB, v1, y1⟩ := hSw; obtain ⟨c0, c1, c2⟩ := HC.out wS hB; go_simp; try with_reducible rfl)
              simp only [Act.put, List.setIfInBounds_toArray, List.set_cons_zero, List.set_cons_succ]
              refine wpAnyH_take (i := 30) (oi := ⟨_, _, _, _, _, _⟩) (v := ?v37) rfl (by kernel_rfl) (by kernel_rfl) (by kernel_rfl) (fun _ _ _ h => h) ?y37 hS ?_
              case y37 => first | (refine Or.inr ⟨by rfl, ?_⟩; with_reducible rfl) | (refine Or.inl ⟨by rfl, ?_⟩; intro wS hSw; obtain ⟨hB, v1, y1⟩ := hSw; obtain ⟨c0, c1, c2⟩ := HC.out wS hB; go_simp; try with_reducible rfl)
              simp only [Act.put, List.setIfInBounds_toArray, List.set_cons_zero, List.set_cons_succ]
              refine wpAnyH_take (i := 31) (oi := ⟨_, _, _, _, _, _⟩) (v := ?v38) rfl (by kernel_rfl) (by kernel_rfl) (by kernel_rfl) (fun _ _ _ h => h) ?y38 hS ?_
              case y38 => first | (refine Or.inr ⟨by rfl, ?_⟩; with_reducible rfl) | (refine Or.inl ⟨by rfl, ?_⟩; intro wS hSw; obtain ⟨hB, v1, y1⟩ := hSw; obtain ⟨c0, c1, c2⟩ := HC.out wS hB; go_simp; try with_reducible rfl)
              simp only [Act.put, List.setIfInBounds_toArray, List.set_cons_zero, List.set_cons_succ]
              refine wpAnyH_take (i := 32) (oi := ⟨_, _, _, _, _, _⟩) (v := ?v39) rfl (by kernel_rfl) (by kernel_rfl) (by kernel_rfl) (fun _ _ _ h => h) ?y39 hS ?_
              case y39 => first | (refine Or.inr ⟨by rfl, ?_⟩; with_reducible rfl) | (refine Or.inl ⟨by rfl, ?_⟩; intro wS hSw; obtain ⟨hB, v1, y1⟩ := hSw; obtain ⟨c0, c1, c2⟩ := HC.out wS hB; go_simp; try with_reducible rfl)
              simp only [Act.put, List.setIfInBounds_toArray, List.set_cons_zero, List.set_cons_succ]
              refine wpAnyH_take (i := 33) (oi := ⟨_, _, _, _, _, _⟩) (v := ?v40) rfl (by kernel_rfl) (by kernel_rfl) (by kernel_rfl) (fun _ _ _ h => h) ?y40 hS ?_
              case y40 => first | (refine Or.inr ⟨by rfl, ?_⟩; with_reducible rfl) | (refine Or.inl ⟨by rfl, ?_⟩; intro wS hSw; obtain ⟨hB, v1, y1⟩ := hSw; obtain ⟨c0, c1, c2⟩ := HC.out wS hB; go_simp; try with_reducible rfl)
              simp only [Act.put, List.setIfInBounds_toArray, List.set_cons_zero, List.set_cons_succ]
              refine wpAnyH_take (i := 34) (oi := ⟨_, _, _, _, _, _⟩) (v := ?v41) rfl (by kernel_rfl) (by kernel_rfl) (by kernel_rfl) (fun _ _ _ h => h) ?y41 hS ?_
              case y41 => first | (refine Or.inr ⟨by rfl, ?_⟩; with_reducible rfl) | (refine Or.inl ⟨by rfl, ?_⟩; intro wS hSw; obtain ⟨hB, v1, y1⟩ := hSw; obtain ⟨c0, c1, c2⟩ := HC.out wS hB; go_simp; try with_reducible rfl)
              simp only [Act.put, List.setIfInBounds_toArray, List.set_cons_zero, List.set_cons_succ]
              refine wpAnyH_take (i := 35) (oi := ⟨_, _, _, _, _, _⟩) (v := ?v42) rfl (by kernel_rfl) (by kernel_rfl) (by kernel_rfl) (fun _ _ _ h => h) ?y42 hS ?_
              case y42 => first | (refine Or.inr ⟨by rfl, ?_⟩; with_reducible rfl) | (refine Or.inl ⟨by rfl, ?_⟩; intro wS hSw; obtain ⟨hB, v1, y1⟩ := hSw; obtain ⟨c0, c1, c2⟩ := HC.out wS hB; go_simp; try with_reducible rfl)
              simp only [Act.put, List.setIfInBounds_toArray, List.set_cons_zero, List.set_cons_succ]
              refine wpAnyH_take (i := 36) (oi := ⟨_, _, _, _, _, _⟩) (v := ?v43) rfl (by kernel_rfl) (by kernel_rfl) (by kernel_rfl) (fun _ _ _ h => h) ?y43 hS ?_
              case y43 => first | (refine Or.inr ⟨by rfl, ?_⟩; with_reducible rfl) | (refine Or.inl ⟨by rfl, ?_⟩; intro wS hSw; obtain ⟨hB, v1, y1⟩ := hSw; obtain ⟨c0, c1, c2⟩ := HC.out wS hB; go_simp; try with_reducible rfl)
              simp only [Act.put, List.setIfInBounds_toArray, List.set_cons_zero, List.set_cons_succ]
              refine wpAnyH_take (i := 37) (oi := ⟨_, _, _, _, _, _⟩) (v := ?v44) rfl (by kernel_rfl) (by kernel_rfl) (by kernel_rfl) (fun _ _ _ h => h) ?y44 hS ?_
              case y44 => first | (refine Or.inr ⟨by rfl, ?_⟩; with_reducible rfl) | (refine Or.inl ⟨by rfl, ?_⟩; intro wS hSw; obtain ⟨hB, v1, y1⟩ := hSw; obtain ⟨c0, c1, c2⟩ := HC.out wS hB; go_simp; try with_reducible rfl)
              simp only [Act.put, List.setIfInBounds_toArray, List.set_cons_zero, List.set_cons_succ]
              refine wpAnyH_take (i := 38) (oi := ⟨_, _, _, _, _, _⟩) (v := ?v45) rfl (by kernel_rfl) (by kernel_rfl) (by kernel_rfl) (fun _ _ _ h => h) ?y45 hS ?_
              case y45 => first | (refine Or.inr ⟨by rfl, ?_⟩; with_reducible rfl) | (refine Or.inl ⟨by rfl, ?_⟩; intro wS hSw; obtain ⟨hB, v1, y1⟩ := hSw; obtain ⟨c0, c1, c2⟩ := HC.out wS hB; go_simp; try with_reducible rfl)
              simp only [Act.put, List.setIfInBounds_toArray, List.set_cons_zero, List.set_cons_succ]
              refine wpAnyH_take (i := 39) (oi := ⟨_, _, _, _, _, _⟩) (v := ?v46) rfl (by kernel_rfl) (by kernel_rfl) (by kernel_rfl) (fun _ _ _ h => h) ?y46 hS ?_
              case y46 => first | (refine Or.inr ⟨by rfl, ?_⟩; with_reducible rfl) | (refine Or.inl ⟨by rfl, ?_⟩; intro wS hSw; obtain ⟨hB, v1, y1⟩ := hSw; obtain ⟨c0, c1, c2⟩ := HC.out wS hB; go_simp; try with_reducible rfl)
              simp only [Act.put, List.setIfInBounds_toArray, List.set_cons_zero, List.set_cons_succ]
              refine wpAnyH_take (i := 40) (oi := ⟨_, _, _, _, _, _⟩) (v := ?v47) rfl (by kernel_rfl) (by kernel_rfl) (by kernel_rfl) (fun _ _ _ h => h) ?y47 hS ?_
              case y47 => first | (refine Or.inr ⟨by rfl, ?_⟩; with_reducible rfl) | (refine Or.inl ⟨by rfl, ?_⟩; intro wS hSw; obtain ⟨hB, v1, y1⟩ := hSw; obtain ⟨c0, c1, c2⟩ := HC.out wS hB; go_simp; try with_reducible rfl)
              simp only [Act.put, List.setIfInBounds_toArray, List.set_cons_zero, List.set_cons_succ]
              refine wpAnyH_take (i := 41) (oi := ⟨_, _, _, _, _, _⟩) (v := ?v48) rfl (by kernel_rfl) (by kernel_rfl) (by kernel_rfl) (fun _ _ _ h => h) ?y48 hS ?_
              case y48 => first | (refine Or.inr ⟨by rfl, ?_⟩; with_reducible rfl) | (refine Or.inl ⟨by rfl, ?_⟩; intro wS hSw; obtain ⟨hB, v1, y1⟩ := hSw; obtain ⟨c0, c1, c2⟩ := HC.out wS hB; go_simp; try with_reducible rfl)
              simp only [Act.put, List.setIfInBounds_toArray, List.set_cons_zero, List.set_cons_succ]
              refine wpAnyH_take (i := 42) (oi := ⟨_, _, _, _, _, _⟩) (v := ?v49) rfl (by kernel_rfl) (by kernel_rfl) (by kernel_rfl) (fun _ _ _ h => h) ?y49 hS ?_
              case y49 => first | (refine Or.inr ⟨by rfl, ?_⟩; with_reducible rfl) | (refine Or.inl ⟨by rfl, ?_⟩; intro wS hSw; obtain ⟨hB, v1, y1⟩ := hSw; obtain ⟨c0, c1, c2⟩ := HC.out wS hB; go_simp; try with_reducible rfl)
              simp only [Act.put, List.setIfInBounds_toArray, List.set_cons_zero, List.set_cons_succ]
              refine wpAnyH_done (by kernel_rfl) ?_ _
              clear hS
              go_wp2
              go_roundw
              case rel => exact ⟨j + 1, by omega, by go_num, Lib.hid HB4.out.drew⟩
              case measure => simp [intOf]; omega
            · obtain ⟨i, hi⟩ : ∃ i, i + 1 = j := ⟨j - 1, by omega⟩
              have hj1 : decide ((0 : Int) < (j : Int)) = true := by simpa using hj0
              have hj2 : decide (0 < j) = true := by simpa using hj0
              have hwj : IntKind.i64.wrap ((j : Int) - 1) = (i : Int) := (IntWalk.i64_in _ (by omega)).trans (by omega)
              have hiT : i < T.length := by rw [← HTn.out]; omega
              have hle := HPw.out i hiT hi
              obtain ⟨py, hpy⟩ : ∃ y, y = T[i] := ⟨_, rfl⟩
              rw [← hpy] at hle
              have HCq := Lib.hid (show ∀ wS, Below wd.heap.size wd wS → wS.cell? ⟨b, off + i * 3 + 2, none⟩ = some (.int .i64 py.place) from fun wS hw => by rw [hpy]; exact HCp.out wS hw i hiT hi)
              have hin : (i : Int) < tn := by omega
              have hg1 : decide (x.place < py.place) = false := by simp; omega
              clear hj0 hpy hiT
              refine wp_region_held_drew (S := fun z => Below wd.heap.size wd z ∧ z.cell? ⟨Y, 1, none⟩ = some (.int .i64 0) ∧ z.cell? ⟨Z, 1, none⟩ = some (.int .i64 ra.x.en)) (by kernel_rfl) ⟨HB4.out.drew, v1, y1⟩ (fun hS => ?_)
              clear v1 y1 c0 c1 c2 
              refine wpAnyH_take (i := 0) (oi := ⟨_, _, _, _, _, _⟩) (v := ?v50) rfl (by kernel_rfl) (by kernel_rfl) (by kernel_rfl) (fun _ _ _ h => h) ?y50 hS ?_
              case y50 => first | (refine Or.inr ⟨by rfl, ?_⟩; with_reducible rfl) | (refine Or.inl ⟨by rfl, ?_⟩; intro wS hSw; obtain ⟨hB, v1, y1⟩ := hSw; obtain ⟨c0, c1, c2⟩ := HC.out wS hB; have cp := HCq.out wS hB; go_simp; try with_reducible rfl)
              simp only [Act.put, List.setIfInBounds_toArray, List.set_cons_zero, List.set_cons_succ]
              refine wpAnyH_take (i := 1) (oi := ⟨_, _, _, _, _, _⟩) (v := ?v51) rfl (by kernel_rfl) (by kernel_rfl) (by kernel_rfl) (fun _ _ _ h => h) ?y51 hS ?_
              case y51 => first | (refine Or.inr ⟨by rfl, ?_⟩; with_reducible rfl) | (refine Or.inl ⟨by rfl, ?_⟩; intro wS hSw; obtain ⟨hB, v1, y1⟩ := hSw; obtain ⟨c0, c1, c2⟩ := HC.out wS hB; have cp := HCq.out wS hB; go_simp; try with_reducible rfl)
              simp only [Act.put, List.setIfInBounds_toArray, List.set_cons_zero, List.set_cons_succ]
              refine wpAnyH_take (i := 2) (oi := ⟨_, _, _, _, _, _⟩) (v := ?v52) rfl (by kernel_rfl) (by kernel_rfl) (by kernel_rfl) (fun _ _ _ h => h) ?y52 hS ?_
              case y52 => first | (refine Or.inr ⟨by rfl, ?_⟩; with_reducible rfl) | (refine Or.inl ⟨by rfl, ?_⟩; intro wS hSw; obtain ⟨hB, v1, y1⟩ := hSw; obtain ⟨c0, c1, c2⟩ := HC.out wS hB; have cp := HCq.out wS hB; go_simp; try with_reducible rfl)
              simp only [Act.put, List.setIfInBounds_toArray, List.set_cons_zero, List.set_cons_succ]
              refine wpAnyH_take (i := 3) (oi := ⟨_, _, _, _, _, _⟩) (v := ?v53) rfl (by kernel_rfl) (by kernel_rfl) (by kernel_rfl) (fun _ _ _ h => h) ?y53 hS ?_
              case y53 => first | (refine Or.inr ⟨by rfl, ?_⟩; with_reducible rfl) | (refine Or.inl ⟨by rfl, ?_⟩; intro wS hSw; obtain ⟨hB, v1, y1⟩ := hSw; obtain ⟨c0, c1, c2⟩ := HC.out wS hB; have cp := HCq.out wS hB; go_simp; try with_reducible rfl)
              simp only [Act.put, List.setIfInBounds_toArray, List.set_cons_zero, List.set_cons_succ]
              refine wpAnyH_take (i := 4) (oi := ⟨_, _, _, _, _, _⟩) (v := ?v54) rfl (by kernel_rfl) (by kernel_rfl) (by kernel_rfl) (fun _ _ _ h => h) ?y54 hS ?_
              case y54 => first | (refine Or.inr ⟨by rfl, ?_⟩; with_reducible rfl) | (refine Or.inl ⟨by rfl, ?_⟩; intro wS hSw; obtain ⟨hB, v1, y1⟩ := hSw; obtain ⟨c0, c1, c2⟩ := HC.out wS hB; have cp := HCq.out wS hB; go_simp; try with_reducible rfl)
              simp only [Act.put, List.setIfInBounds_toArray, List.set_cons_zero, List.set_cons_succ]
              refine wpAnyH_take (i := 5) (oi := ⟨_, _, _, _, _, _⟩) (v := ?v55) rfl (by kernel_rfl) (by kernel_rfl) (by kernel_rfl) (fun _ _ _ h => h) ?y55 hS ?_
              case y55 => first | (refine Or.inr ⟨by rfl, ?_⟩; with_reducible rfl) | (refine Or.inl ⟨by rfl, ?_⟩; intro wS hSw; obtain ⟨hB, v1, y1⟩ := hSw; obtain ⟨c0, c1, c2⟩ := HC.out wS hB; have cp := HCq.out wS hB; go_simp; try with_reducible rfl)
              simp only [Act.put, List.setIfInBounds_toArray, List.set_cons_zero, List.set_cons_succ]
              refine wpAnyH_take (i := 6) (oi := ⟨_, _, _, _, _, _⟩) (v := ?v56) rfl (by kernel_rfl) (by kernel_rfl) (by kernel_rfl) (fun _ _ _ h => h) ?y56 hS ?_
              case y56 => first | (refine Or.inr ⟨by rfl, ?_⟩; with_reducible rfl) | (refine Or.inl ⟨by rfl, ?_⟩; intro wS hSw; obtain ⟨hB, v1, y1⟩ := hSw; obtain ⟨c0, c1, c2⟩ := HC.out wS hB; have cp := HCq.out wS hB; go_simp; try with_reducible rfl)
              simp only [Act.put, List.setIfInBounds_toArray, List.set_cons_zero, List.set_cons_succ]
              refine wpAnyH_take (i := 7) (oi := ⟨_, _, _, _, _, _⟩) (v := ?v57) rfl (by kernel_rfl) (by kernel_rfl) (by kernel_rfl) (fun _ _ _ h => h) ?y57 hS ?_
              case y57 => first | (refine Or.inr ⟨by rfl, ?_⟩; with_reducible rfl) | (refine Or.inl ⟨by rfl, ?_⟩; intro wS hSw; obtain ⟨hB, v1, y1⟩ := hSw; obtain ⟨c0, c1, c2⟩ := HC.out wS hB; have cp := HCq.out wS hB; go_simp; try with_reducible rfl)
              simp only [Act.put, List.setIfInBounds_toArray, List.set_cons_zero, List.set_cons_succ]
              refine wpAnyH_take (i := 8) (oi := ⟨_, _, _, _, _, _⟩) (v := ?v58) rfl (by kernel_rfl) (by kernel_rfl) (by kernel_rfl) (fun _ _ _ h => h) ?y58 hS ?_
              case y58 => first | (refine Or.inr ⟨by rfl, ?_⟩; with_reducible rfl) | (refine Or.inl ⟨by rfl, ?_⟩; intro wS hSw; obtain ⟨hB, v1, y1⟩ := hSw; obtain ⟨c0, c1, c2⟩ := HC.out wS hB; have cp := HCq.out wS hB; go_simp; try with_reducible rfl)
              simp only [Act.put, List.setIfInBounds_toArray, List.set_cons_zero, List.set_cons_succ]
              refine wpAnyH_take (i := 9) (oi := ⟨_, _, _, _, _, _⟩) (v := ?v59) rfl (by kernel_rfl) (by kernel_rfl) (by kernel_rfl) (fun _ _ _ h => h) ?y59 hS ?_
              case y59 => first | (refine Or.inr ⟨by rfl, ?_⟩; with_reducible rfl) | (refine Or.inl ⟨by rfl, ?_⟩; intro wS hSw; obtain ⟨hB, v1, y1⟩ := hSw; obtain ⟨c0, c1, c2⟩ := HC.out wS hB; have cp := HCq.out wS hB; go_simp; try with_reducible rfl)
              simp only [Act.put, List.setIfInBounds_toArray, List.set_cons_zero, List.set_cons_succ]
              refine wpAnyH_take (i := 10) (oi := ⟨_, _, _, _, _, _⟩) (v := ?v60) rfl (by kernel_rfl) (by kernel_rfl) (by kernel_rfl) (fun _ _ _ h => h) ?y60 hS ?_
              case y60 => first | (refine Or.inr ⟨by rfl, ?_⟩; with_reducible rfl) | (refine Or.inl ⟨by rfl, ?_⟩; intro wS hSw; obtain ⟨hB, v1, y1⟩ := hSw; obtain ⟨c0, c1, c2⟩ := HC.out wS hB; have cp := HCq.out wS hB; go_simp; try with_reducible rfl)
              simp only [Act.put, List.setIfInBounds_toArray, List.set_cons_zero, List.set_cons_succ]
              refine wpAnyH_take (i := 11) (oi := ⟨_, _, _, _, _, _⟩) (v := ?v61) rfl (by kernel_rfl) (by kernel_rfl) (by kernel_rfl) (fun _ _ _ h => h) ?y61 hS ?_
              case y61 => first | (refine Or.inr ⟨by rfl, ?_⟩; with_reducible rfl) | (refine Or.inl ⟨by rfl, ?_⟩; intro wS hSw; obtain ⟨hB, v1, y1⟩ := hSw; obtain ⟨c0, c1, c2⟩ := HC.out wS hB; have cp := HCq.out wS hB; go_simp; try with_reducible rfl)
              simp only [Act.put, List.setIfInBounds_toArray, List.set_cons_zero, List.set_cons_succ]
              refine wpAnyH_take (i := 12) (oi := ⟨_, _, _, _, _, _⟩) (v := ?v62) rfl (by kernel_rfl) (by kernel_rfl) (by kernel_rfl) (fun _ _ _ h => h) ?y62 hS ?_
              case y62 => first | (refine Or.inr ⟨by rfl, ?_⟩; with_reducible rfl) | (refine Or.inl ⟨by rfl, ?_⟩; intro wS hSw; obtain ⟨hB, v1, y1⟩ := hSw; obtain ⟨c0, c1, c2⟩ := HC.out wS hB; have cp := HCq.out wS hB; go_simp; try with_reducible rfl)
              simp only [Act.put, List.setIfInBounds_toArray, List.set_cons_zero, List.set_cons_succ]
              refine wpAnyH_take (i := 13) (oi := ⟨_, _, _, _, _, _⟩) (v := ?v63) rfl (by kernel_rfl) (by kernel_rfl) (by kernel_rfl) (fun _ _ _ h => h) ?y63 hS ?_
              case y63 => first | (refine Or.inr ⟨by rfl, ?_⟩; with_reducible rfl) | (refine Or.inl ⟨by rfl, ?_⟩; intro wS hSw; obtain ⟨hB, v1, y1⟩ := hSw; obtain ⟨c0, c1, c2⟩ := HC.out wS hB; have cp := HCq.out wS hB; go_simp; try with_reducible rfl)
              simp only [Act.put, List.setIfInBounds_toArray, List.set_cons_zero, List.set_cons_succ]
              refine wpAnyH_take (i := 14) (oi := ⟨_, _, _, _, _, _⟩) (v := ?v64) rfl (by kernel_rfl) (by kernel_rfl) (by kernel_rfl) (fun _ _ _ h => h) ?y64 hS ?_
              case y64 => first | (refine Or.inr ⟨by rfl, ?_⟩; with_reducible rfl) | (refine Or.inl ⟨by rfl, ?_⟩; intro wS hSw; obtain ⟨hB, v1, y1⟩ := hSw; obtain ⟨c0, c1, c2⟩ := HC.out wS hB; have cp := HCq.out wS hB; go_simp; try with_reducible rfl)
              simp only [Act.put, List.setIfInBounds_toArray, List.set_cons_zero, List.set_cons_succ]
              refine wpAnyH_take (i := 15) (oi := ⟨_, _, _, _, _, _⟩) (v := ?v65) rfl (by kernel_rfl) (by kernel_rfl) (by kernel_rfl) (fun _ _ _ h => h) ?y65 hS ?_
              case y65 => first | (refine Or.inr ⟨by rfl, ?_⟩; with_reducible rfl) | (refine Or.inl ⟨by rfl, ?_⟩; intro wS hSw; obtain ⟨hB, v1, y1⟩ := hSw; obtain ⟨c0, c1, c2⟩ := HC.out wS hB; have cp := HCq.out wS hB; go_simp; try with_reducible rfl)
              simp only [Act.put, List.setIfInBounds_toArray, List.set_cons_zero, List.set_cons_succ]
              refine wpAnyH_take (i := 16) (oi := ⟨_, _, _, _, _, _⟩) (v := ?v66) rfl (by kernel_rfl) (by kernel_rfl) (by kernel_rfl) (fun _ _ _ h => h) ?y66 hS ?_
              case y66 => first | (refine Or.inr ⟨by rfl, ?_⟩; with_reducible rfl) | (refine Or.inl ⟨by rfl, ?_⟩; intro wS hSw; obtain ⟨hB, v1, y1⟩ := hSw; obtain ⟨c0, c1, c2⟩ := HC.out wS hB; have cp := HCq.out wS hB; go_simp; try with_reducible rfl)
              simp only [Act.put, List.setIfInBounds_toArray, List.set_cons_zero, List.set_cons_succ]
              refine wpAnyH_take (i := 17) (oi := ⟨_, _, _, _, _, _⟩) (v := ?v67) rfl (by kernel_rfl) (by kernel_rfl) (by kernel_rfl) (fun _ _ _ h => h) ?y67 hS ?_
              case y67 => first | (refine Or.inr ⟨by rfl, ?_⟩; with_reducible rfl) | (refine Or.inl ⟨by rfl, ?_⟩; intro wS hSw; obtain ⟨hB, v1, y1⟩ := hSw; obtain ⟨c0, c1, c2⟩ := HC.out wS hB; have cp := HCq.out wS hB; go_simp; try with_reducible rfl)
              simp only [Act.put, List.setIfInBounds_toArray, List.set_cons_zero, List.set_cons_succ]
              refine wpAnyH_take (i := 18) (oi := ⟨_, _, _, _, _, _⟩) (v := ?v68) rfl (by kernel_rfl) (by kernel_rfl) (by kernel_rfl) (fun _ _ _ h => h) ?y68 hS ?_
              case y68 => first | (refine Or.inr ⟨by rfl, ?_⟩; with_reducible rfl) | (refine Or.inl ⟨by rfl, ?_⟩; intro wS hSw; obtain ⟨hB, v1, y1⟩ := hSw; obtain ⟨c0, c1, c2⟩ := HC.out wS hB; have cp := HCq.out wS hB; go_simp; try with_reducible rfl)
              simp only [Act.put, List.setIfInBounds_toArray, List.set_cons_zero, List.set_cons_succ]
              refine wpAnyH_take (i := 19) (oi := ⟨_, _, _, _, _, _⟩) (v := ?v69) rfl (by kernel_rfl) (by kernel_rfl) (by kernel_rfl) (fun _ _ _ h => h) ?y69 hS ?_
              case y69 => first | (refine Or.inr ⟨by rfl, ?_⟩; with_reducible rfl) | (refine Or.inl ⟨by rfl, ?_⟩; intro wS hSw; obtain ⟨hB, v1, y1⟩ := hSw; obtain ⟨c0, c1, c2⟩ := HC.out wS hB; have cp := HCq.out wS hB; go_simp; try with_reducible rfl)
              simp only [Act.put, List.setIfInBounds_toArray, List.set_cons_zero, List.set_cons_succ]
              refine wpAnyH_take (i := 20) (oi := ⟨_, _, _, _, _, _⟩) (v := ?v70) rfl (by kernel_rfl) (by kernel_rfl) (by kernel_rfl) (fun _ _ _ h => h) ?y70 hS ?_
              case y70 => first | (refine Or.inr ⟨by rfl, ?_⟩; with_reducible rfl) | (refine Or.inl ⟨by rfl, ?_⟩; intro wS hSw; obtain ⟨hB, v1, y1⟩ := hSw; obtain ⟨c0, c1, c2⟩ := HC.out wS hB; have cp := HCq.out wS hB; go_simp; try with_reducible rfl)
              simp only [Act.put, List.setIfInBounds_toArray, List.set_cons_zero, List.set_cons_succ]
              refine wpAnyH_take (i := 21) (oi := ⟨_, _, _, _, _, _⟩) (v := ?v71) rfl (by kernel_rfl) (by kernel_rfl) (by kernel_rfl) (fun _ _ _ h => h) ?y71 hS ?_
              case y71 => first | (refine Or.inr ⟨by rfl, ?_⟩; with_reducible rfl) | (refine Or.inl ⟨by rfl, ?_⟩; intro wS hSw; obtain ⟨hB, v1, y1⟩ := hSw; obtain ⟨c0, c1, c2⟩ := HC.out wS hB; have cp := HCq.out wS hB; go_simp; try with_reducible rfl)
              simp only [Act.put, List.setIfInBounds_toArray, List.set_cons_zero, List.set_cons_succ]
              refine wpAnyH_take (i := 22) (oi := ⟨_, _, _, _, _, _⟩) (v := ?v72) rfl (by kernel_rfl) (by kernel_rfl) (by kernel_rfl) (fun _ _ _ h => h) ?y72 hS ?_
              case y72 => first | (refine Or.inr ⟨by rfl, ?_⟩; with_reducible rfl) | (refine Or.inl ⟨by rfl, ?_⟩; intro wS hSw; obtain ⟨hB, v1, y1⟩ := hSw; obtain ⟨c0, c1, c2⟩ := HC.out wS hB; have cp := HCq.out wS hB; go_simp; try with_reducible rfl)
              simp only [Act.put, List.setIfInBounds_toArray, List.set_cons_zero, List.set_cons_succ]
              refine wpAnyH_take (i := 23) (oi := ⟨_, _, _, _, _, _⟩) (v := ?v73) rfl (by kernel_rfl) (by kernel_rfl) (by kernel_rfl) (fun _ _ _ h => h) ?y73 hS ?_
              case y73 => first | (refine Or.inr ⟨by rfl, ?_⟩; with_reducible rfl) | (refine Or.inl ⟨by rfl, ?_⟩; intro wS hSw; obtain ⟨hB, v1, y1⟩ := hSw; obtain ⟨c0, c1, c2⟩ := HC.out wS hB; have cp := HCq.out wS hB; go_simp; try with_reducible rfl)
              simp only [Act.put, List.setIfInBounds_toArray, List.set_cons_zero, List.set_cons_succ]
              refine wpAnyH_take (i := 24) (oi := ⟨_, _, _, _, _, _⟩) (v := ?v74) rfl (by kernel_rfl) (by kernel_rfl) (by kernel_rfl) (fun _ _ _ h => h) ?y74 hS ?_
              case y74 => first | (refine Or.inr ⟨by rfl, ?_⟩; with_reducible rfl) | (refine Or.inl ⟨by rfl, ?_⟩; intro wS hSw; obtain ⟨hB, v1, y1⟩ := hSw; obtain ⟨c0, c1, c2⟩ := HC.out wS hB; have cp := HCq.out wS hB; go_simp; try with_reducible rfl)
              simp only [Act.put, List.setIfInBounds_toArray, List.set_cons_zero, List.set_cons_succ]
              refine wpAnyH_take (i := 25) (oi := ⟨_, _, _, _, _, _⟩) (v := ?v75) rfl (by kernel_rfl) (by kernel_rfl) (by kernel_rfl) (fun _ _ _ h => h) ?y75 hS ?_
              case y75 => first | (refine Or.inr ⟨by rfl, ?_⟩; with_reducible rfl) | (refine Or.inl ⟨by rfl, ?_⟩; intro wS hSw; obtain ⟨hB, v1, y1⟩ := hSw; obtain ⟨c0, c1, c2⟩ := HC.out wS hB; have cp := HCq.out wS hB; go_simp; try with_reducible rfl)
              simp only [Act.put, List.setIfInBounds_toArray, List.set_cons_zero, List.set_cons_succ]
              refine wpAnyH_take (i := 26) (oi := ⟨_, _, _, _, _, _⟩) (v := ?v76) rfl (by kernel_rfl) (by kernel_rfl) (by kernel_rfl) (fun _ _ _ h => h) ?y76 hS ?_
              case y76 => first | (refine Or.inr ⟨by rfl, ?_⟩; with_reducible rfl) | (refine Or.inl ⟨by rfl, ?_⟩; intro wS hSw; obtain ⟨hB, v1, y1⟩ := hSw; obtain ⟨c0, c1, c2⟩ := HC.out wS hB; have cp := HCq.out wS hB; go_simp; try with_reducible rfl)
              simp only [Act.put, List.setIfInBounds_toArray, List.set_cons_zero, List.set_cons_succ]
              refine wpAnyH_take (i := 27) (oi := ⟨_, _, _, _, _, _⟩) (v := ?v77) rfl (by kernel_rfl) (by kernel_rfl) (by kernel_rfl) (fun _ _ _ h => h) ?y77 hS ?_
              case y77 => first | (refine Or.inr ⟨by rfl, ?_⟩; with_reducible rfl) | (refine Or.inl ⟨by rfl, ?_⟩; intro wS hSw; obtain ⟨hB, v1, y1⟩ := hSw; obtain ⟨c0, c1, c2⟩ := HC.out wS hB; have cp := HCq.out wS hB; go_simp; try with_reducible rfl)
              simp only [Act.put, List.setIfInBounds_toArray, List.set_cons_zero, List.set_cons_succ]
              refine wpAnyH_take (i := 28) (oi := ⟨_, _, _, _, _, _⟩) (v := ?v78) rfl (by kernel_rfl) (by kernel_rfl) (by kernel_rfl) (fun _ _ _ h => h) ?y78 hS ?_
              case y78 => first | (refine Or.inr ⟨by rfl, ?_⟩; with_reducible rfl) | (refine Or.inl ⟨by rfl, ?_⟩; intro wS hSw; obtain ⟨hB, v1, y1⟩ := hSw; obtain ⟨c0, c1, c2⟩ := HC.out wS hB; have cp := HCq.out wS hB; go_simp; try with_reducible rfl)
              simp only [Act.put, List.setIfInBounds_toArray, List.set_cons_zero, List.set_cons_succ]
              refine wpAnyH_take (i := 29) (oi := ⟨_, _, _, _, _, _⟩) (v := ?v79) rfl (by kernel_rfl) (by kernel_rfl) (by kernel_rfl) (fun _ _ _ h => h) ?y79 hS ?_
              case y79 => first | (refine Or.inr ⟨by rfl, ?_⟩; with_reducible rfl) | (refine Or.inl ⟨by rfl, ?_⟩; intro wS hSw; obtain ⟨hB, v1, y1⟩ := hSw; obtain ⟨c0, c1, c2⟩ := HC.out wS hB; have cp := HCq.out wS hB; go_simp; try with_reducible rfl)
              simp only [Act.put, List.setIfInBounds_toArray, List.set_cons_zero, List.set_cons_succ]
              refine wpAnyH_take (i := 30) (oi := ⟨_, _, _, _, _, _⟩) (v := ?v80) rfl (by kernel_rfl) (by kernel_rfl) (by kernel_rfl) (fun _ _ _ h => h) ?y80 hS ?_
              case y80 => first | (refine Or.inr ⟨by rfl, ?_⟩; with_reducible rfl) | (refine Or.inl ⟨by rfl, ?_⟩; intro wS hSw; obtain ⟨hB, v1, y1⟩ := hSw; obtain ⟨c0, c1, c2⟩ := HC.out wS hB; have cp := HCq.out wS hB; go_simp; try with_reducible rfl)
              simp only [Act.put, List.setIfInBounds_toArray, List.set_cons_zero, List.set_cons_succ]
              refine wpAnyH_take (i := 31) (oi := ⟨_, _, _, _, _, _⟩) (v := ?v81) rfl (by kernel_rfl) (by kernel_rfl) (by kernel_rfl) (fun _ _ _ h => h) ?y81 hS ?_
              case y81 => first | (refine Or.inr ⟨by rfl, ?_⟩; with_reducible rfl) | (refine Or.inl ⟨by rfl, ?_⟩; intro wS hSw; obtain ⟨hB, v1, y1⟩ := hSw; obtain ⟨c0, c1, c2⟩ := HC.out wS hB; have cp := HCq.out wS hB; go_simp; try with_reducible rfl)
              simp only [Act.put, List.setIfInBounds_toArray, List.set_cons_zero, List.set_cons_succ]
              refine wpAnyH_take (i := 32) (oi := ⟨_, _, _, _, _, _⟩) (v := ?v82) rfl (by kernel_rfl) (by kernel_rfl) (by kernel_rfl) (fun _ _ _ h => h) ?y82 hS ?_
              case y82 => first | (refine Or.inr ⟨by rfl, ?_⟩; with_reducible rfl) | (refine Or.inl ⟨by rfl, ?_⟩; intro wS hSw; obtain ⟨hB, v1, y1⟩ := hSw; obtain ⟨c0, c1, c2⟩ := HC.out wS hB; have cp := HCq.out wS hB; go_simp; try with_reducible rfl)
              simp only [Act.put, List.setIfInBounds_toArray, List.set_cons_zero, List.set_cons_succ]
              refine wpAnyH_take (i := 33) (oi := ⟨_, _, _, _, _, _⟩) (v := ?v83) rfl (by kernel_rfl) (by kernel_rfl) (by kernel_rfl) (fun _ _ _ h => h) ?y83 hS ?_
              case y83 => first | (refine Or.inr ⟨by rfl, ?_⟩; with_reducible rfl) | (refine Or.inl ⟨by rfl, ?_⟩; intro wS hSw; obtain ⟨hB, v1, y1⟩ := hSw; obtain ⟨c0, c1, c2⟩ := HC.out wS hB; have cp := HCq.out wS hB; go_simp; try with_reducible rfl)
              simp only [Act.put, List.setIfInBounds_toArray, List.set_cons_zero, List.set_cons_succ]
              refine wpAnyH_take (i := 34) (oi := ⟨_, _, _, _, _, _⟩) (v := ?v84) rfl (by kernel_rfl) (by kernel_rfl) (by kernel_rfl) (fun _ _ _ h => h) ?y84 hS ?_
              case y84 => first | (refine Or.inr ⟨by rfl, ?_⟩; with_reducible rfl) | (refine Or.inl ⟨by rfl, ?_⟩; intro wS hSw; obtain ⟨hB, v1, y1⟩ := hSw; obtain ⟨c0, c1, c2⟩ := HC.out wS hB; have cp := HCq.out wS hB; go_simp; try with_reducible rfl)
              simp only [Act.put, List.setIfInBounds_toArray, List.set_cons_zero, List.set_cons_succ]
              refine wpAnyH_take (i := 35) (oi := ⟨_, _, _, _, _, _⟩) (v := ?v85) rfl (by kernel_rfl) (by kernel_rfl) (by kernel_rfl) (fun _ _ _ h => h) ?y85 hS ?_
              case y85 => first | (refine Or.inr ⟨by rfl, ?_⟩; with_reducible rfl) | (refine Or.inl ⟨by rfl, ?_⟩; intro wS hSw; obtain ⟨hB, v1, y1⟩ := hSw; obtain ⟨c0, c1, c2⟩ := HC.out wS hB; have cp := HCq.out wS hB; go_simp; try with_reducible rfl)
              simp only [Act.put, List.setIfInBounds_toArray, List.set_cons_zero, List.set_cons_succ]
              refine wpAnyH_take (i := 36) (oi := ⟨_, _, _, _, _, _⟩) (v := ?v86) rfl (by kernel_rfl) (by kernel_rfl) (by kernel_rfl) (fun _ _ _ h => h) ?y86 hS ?_
              case y86 => first | (refine Or.inr ⟨by rfl, ?_⟩; with_reducible rfl) | (refine Or.inl ⟨by rfl, ?_⟩; intro wS hSw; obtain ⟨hB, v1, y1⟩ := hSw; obtain ⟨c0, c1, c2⟩ := HC.out wS hB; have cp := HCq.out wS hB; go_simp; try with_reducible rfl)
              simp only [Act.put, List.setIfInBounds_toArray, List.set_cons_zero, List.set_cons_succ]
              refine wpAnyH_take (i := 37) (oi := ⟨_, _, _, _, _, _⟩) (v := ?v87) rfl (by kernel_rfl) (by kernel_rfl) (by kernel_rfl) (fun _ _ _ h => h) ?y87 hS ?_
              case y87 => first | (refine Or.inr ⟨by rfl, ?_⟩; with_reducible rfl) | (refine Or.inl ⟨by rfl, ?_⟩; intro wS hSw; obtain ⟨hB, v1, y1⟩ := hSw; obtain ⟨c0, c1, c2⟩ := HC.out wS hB; have cp := HCq.out wS hB; go_simp; try with_reducible rfl)
              simp only [Act.put, List.setIfInBounds_toArray, List.set_cons_zero, List.set_cons_succ]
              refine wpAnyH_take (i := 38) (oi := ⟨_, _, _, _, _, _⟩) (v := ?v88) rfl (by kernel_rfl) (by kernel_rfl) (by kernel_rfl) (fun _ _ _ h => h) ?y88 hS ?_
              case y88 => first | (refine Or.inr ⟨by rfl, ?_⟩; with_reducible rfl) | (refine Or.inl ⟨by rfl, ?_⟩; intro wS hSw; obtain ⟨hB, v1, y1⟩ := hSw; obtain ⟨c0, c1, c2⟩ := HC.out wS hB; have cp := HCq.out wS hB; go_simp; try with_reducible rfl)
              simp only [Act.put, List.setIfInBounds_toArray, List.set_cons_zero, List.set_cons_succ]
              refine wpAnyH_take (i := 39) (oi := ⟨_, _, _, _, _, _⟩) (v := ?v89) rfl (by kernel_rfl) (by kernel_rfl) (by kernel_rfl) (fun _ _ _ h => h) ?y89 hS ?_
              case y89 => first | (refine Or.inr ⟨by rfl, ?_⟩; with_reducible rfl) | (refine Or.inl ⟨by rfl, ?_⟩; intro wS hSw; obtain ⟨hB, v1, y1⟩ := hSw; obtain ⟨c0, c1, c2⟩ := HC.out wS hB; have cp := HCq.out wS hB; go_simp; try with_reducible rfl)
              simp only [Act.put, List.setIfInBounds_toArray, List.set_cons_zero, List.set_cons_succ]
              refine wpAnyH_take (i := 40) (oi := ⟨_, _, _, _, _, _⟩) (v := ?v90) rfl (by kernel_rfl) (by kernel_rfl) (by kernel_rfl) (fun _ _ _ h => h) ?y90 hS ?_
              case y90 => first | (refine Or.inr ⟨by rfl, ?_⟩; with_reducible rfl) | (refine Or.inl ⟨by rfl, ?_⟩; intro wS hSw; obtain ⟨hB, v1, y1⟩ := hSw; obtain ⟨c0, c1, c2⟩ := HC.out wS hB; have cp := HCq.out wS hB; go_simp; try with_reducible rfl)
              simp only [Act.put, List.setIfInBounds_toArray, List.set_cons_zero, List.set_cons_succ]
              refine wpAnyH_take (i := 41) (oi := ⟨_, _, _, _, _, _⟩) (v := ?v91) rfl (by kernel_rfl) (by kernel_rfl) (by kernel_rfl) (fun _ _ _ h => h) ?y91 hS ?_
              case y91 => first | (refine Or.inr ⟨by rfl, ?_⟩; with_reducible rfl) | (refine Or.inl ⟨by rfl, ?_⟩; intro wS hSw; obtain ⟨hB, v1, y1⟩ := hSw; obtain ⟨c0, c1, c2⟩ := HC.out wS hB; have cp := HCq.out wS hB; go_simp; try with_reducible rfl)
              simp only [Act.put, List.setIfInBounds_toArray, List.set_cons_zero, List.set_cons_succ]
              refine wpAnyH_take (i := 42) (oi := ⟨_, _, _, _, _, _⟩) (v := ?v92) rfl (by kernel_rfl) (by kernel_rfl) (by kernel_rfl) (fun _ _ _ h => h) ?y92 hS ?_
              case y92 => first | (refine Or.inr ⟨by rfl, ?_⟩; with_reducible rfl) | (refine Or.inl ⟨by rfl, ?_⟩; intro wS hSw; obtain ⟨hB, v1, y1⟩ := hSw; obtain ⟨c0, c1, c2⟩ := HC.out wS hB; have cp := HCq.out wS hB; go_simp; try with_reducible rfl)
              simp only [Act.put, List.setIfInBounds_toArray, List.set_cons_zero, List.set_cons_succ]
              refine wpAnyH_done (by kernel_rfl) ?_ _
              clear hS
              go_wp2
              go_roundw
              case rel => exact ⟨j + 1, by omega, by go_num, Lib.hid HB4.out.drew⟩
              case measure => simp [intOf]; omega
          · skip
            have HMr := Lib.hid (@MeIs.later (cpW w3.heap.size wc.heap.size) _ _ _ _ _ _ _ _ _ _ _ _ HMd.out HW.out)
            have HOr := Lib.hid (HOd.out.later HW.out)
            obtain ⟨c0, c1, c2⟩ := HC.out wr HW.out
            have hp2 : (x.place == pl) = false := by simpa using hp
            have hp3 : (x.place != pl) = true := by simpa using hp
            have HP := Lib.hid hp
            clear hp
            go_wp2_with fail
            refine (@mGet_any (cpW w3.heap.size wc.heap.size) _ _ _ _ _ _ _ _ _ _ _ ra wr HMr.out (by rw [HFm.out, if_neg HP.out]; exact HRa.out) (by rw [HNa.out.1]; simp) (by rw [HNa.out.2]; simp)).mono ?_
            rintro e z1 ⟨tv, kv, rfl, ho1, ho2, hb⟩
            obtain ⟨xa, xc, rfl⟩ := own_val ho1
            obtain ⟨ya, yc, rfl⟩ := own_val ho2
            clear ho1 ho2
            have HB1 := Lib.hid (HW.out.trans (hb.mono HW.out.size))
            have HO1 := Lib.hid (HOr.out.later hb)
            clear hb c0 c1 c2 HMr HOr
            go_upto_region 19 with (fail)
            refine gen_world (S := fun z => Below z1.heap.size z1 z ∧ z.heap[z1.heap.size]? = some (.cells #[.bool ra.x.is, .int .i64 ra.x.en, .int .i64 ra.x.far, .slice xa ra.x.tree.length xc, .slice ya ra.x.tou.length yc] 37 (0, 0))) (one_new z1 _) (fun z2 hz => ?_)
            obtain ⟨hb, hx⟩ := hz
            obtain ⟨Y, hY⟩ : ∃ Y, Y = z1.heap.size := ⟨_, rfl⟩
            rw [← hY] at hx ⊢
            have HB2 := Lib.hid (HB1.out.trans (hb.mono HB1.out.size))
            have HO2 := Lib.hid (HO1.out.later hb)
            have HY2 := Lib.hid hx
            clear hb hx hY HO1 HB1
            obtain ⟨c0, c1, c2⟩ := HC.out z2 HB2.out
            go_wp2_with fail
            refine (mGet_any (r := rb) z2 HO2.out HRb.out.1 (by rw [HRb.out.2.1]; simp) (by rw [HRb.out.2.2]; simp)).mono ?_
            rintro e z3 ⟨tv2, kv2, rfl, ho1, ho2, hb⟩
            obtain ⟨xa2, xc2, rfl⟩ := own_val ho1
            obtain ⟨ya2, yc2, rfl⟩ := own_val ho2
            have HB3 := Lib.hid (HB2.out.trans (hb.mono HB2.out.size))
            have HY3 := Lib.hid ((hb.block _ (lt_of_block HY2.out)).trans HY2.out)
            clear ho1 ho2 hb c0 c1 c2 HO2 HY2 HB2
            go_upto_region 20 with (fail)
            refine gen_world (S := fun z => Below z3.heap.size z3 z ∧ z.heap[z3.heap.size]? = some (.cells #[.bool rb.x.is, .int .i64 rb.x.en, .int .i64 rb.x.far, .slice xa2 rb.x.tree.length xc2, .slice ya2 rb.x.tou.length yc2] 37 (0, 0))) (one_new z3 _) (fun z4 hz => ?_)
            obtain ⟨hb, hx⟩ := hz
            obtain ⟨Z, hZ⟩ : ∃ Z, Z = z3.heap.size := ⟨_, rfl⟩
            rw [← hZ] at hx ⊢
            have HB4 := Lib.hid (HB3.out.trans (hb.mono HB3.out.size))
            have hy := (hb.block _ (lt_of_block HY3.out)).trans HY3.out
            obtain ⟨⟨-, y1, -⟩, -⟩ := five_box hx
            obtain ⟨⟨-, v1, -⟩, -⟩ := five_box hy
            obtain ⟨c0, c1, c2⟩ := HC.out z4 HB4.out
            rw [HEn.out] at y1
            clear hb hx hy hZ HY3 HB3
            rcases Nat.eq_zero_or_pos j with hj0 | hj0
            · have hj1 : decide ((0 : Int) < (j : Int)) = false := by simp [hj0]
              have hj2 : decide (0 < j) = false := by simp [hj0]
              clear hj0
              refine wp_region_held_drew (S := fun z => Below wd.heap.size wd z ∧ z.cell? ⟨Y, 1, none⟩ = some (.int .i64 ra.x.en) ∧ z.cell? ⟨Z, 1, none⟩ = some (.int .i64 ra.x.en)) (by kernel_rfl) ⟨HB4.out.drew, v1, y1⟩ (fun hS => ?_)
              clear v1 y1 c0 c1 c2 
              refine wpAnyH_take (i := 0) (oi := ⟨_, _, _, _, _, _⟩) (v := ?v93) rfl (by kernel_rfl) (by kernel_rfl) (by kernel_rfl) (fun _ _ _ h => h) ?y93 hS ?_
              case y93 => first | (refine Or.inr ⟨by rfl, ?_⟩; with_reducible rfl) | (refine Or.inl ⟨by rfl, ?_⟩; intro wS hSw; obtain ⟨hB, v1, y1⟩ := hSw; obtain ⟨c0, c1, c2⟩ := HC.out wS hB; go_simp; try with_reducible rfl)
              simp only [Act.put, List.setIfInBounds_toArray, List.set_cons_zero, List.set_cons_succ]
              refine wpAnyH_take (i := 1) (oi := ⟨_, _, _, _, _, _⟩) (v := ?v94) rfl (by kernel_rfl) (by kernel_rfl) (by kernel_rfl) (fun _ _ _ h => h) ?y94 hS ?_
              case y94 => first | (refine Or.inr ⟨by rfl, ?_⟩; with_reducible rfl) | (refine Or.inl ⟨by rfl, ?_⟩; intro wS hSw; obtain ⟨hB, v1, y1⟩ := hSw; obtain ⟨c0, c1, c2⟩ := HC.out wS hB; go_simp; try with_reducible rfl)
              simp only [Act.put, List.setIfInBounds_toArray, List.set_cons_zero, List.set_cons_succ]
              refine wpAnyH_take (i := 2) (oi := ⟨_, _, _, _, _, _⟩) (v := ?v95) rfl (by kernel_rfl) (by kernel_rfl) (by kernel_rfl) (fun _ _ _ h => h) ?y95 hS ?_
              case y95 => first | (refine Or.inr ⟨by rfl, ?_⟩; with_reducible rfl) | (refine Or.inl ⟨by rfl, ?_⟩; intro wS hSw; obtain ⟨hB, v1, y1⟩ := hSw; obtain ⟨c0, c1, c2⟩ := HC.out wS hB; go_simp; try with_reducible rfl)
              simp only [Act.put, List.setIfInBounds_toArray, List.set_cons_zero, List.set_cons_succ]
              refine wpAnyH_take (i := 3) (oi := ⟨_, _, _, _, _, _⟩) (v := ?v96) rfl (by kernel_rfl) (by kernel_rfl) (by kernel_rfl) (fun _ _ _ h => h) ?y96 hS ?_
              case y96 => first | (refine Or.inr ⟨by rfl, ?_⟩; with_reducible rfl) | (refine Or.inl ⟨by rfl, ?_⟩; intro wS hSw; obtain ⟨hB, v1, y1⟩ := hSw; obtain ⟨c0, c1, c2⟩ := HC.out wS hB; go_simp; try with_reducible rfl)
              simp only [Act.put, List.setIfInBounds_toArray, List.set_cons_zero, List.set_cons_succ]
              refine wpAnyH_take (i := 4) (oi := ⟨_, _, _, _, _, _⟩) (v := ?v97) rfl (by kernel_rfl) (by kernel_rfl) (by kernel_rfl) (fun _ _ _ h => h) ?y97 hS ?_
              case y97 => first | (refine Or.inr ⟨by rfl, ?_⟩; with_reducible rfl) | (refine Or.inl ⟨by rfl, ?_⟩; intro wS hSw; obtain ⟨hB, v1, y1⟩ := hSw; obtain ⟨c0, c1, c2⟩ := HC.out wS hB; go_simp; try with_reducible rfl)
              simp only [Act.put, List.setIfInBounds_toArray, List.set_cons_zero, List.set_cons_succ]
              refine wpAnyH_take (i := 5) (oi := ⟨_, _, _, _, _, _⟩) (v := ?v98) rfl (by kernel_rfl) (by kernel_rfl) (by kernel_rfl) (fun _ _ _ h => h) ?y98 hS ?_
              case y98 => first | (refine Or.inr ⟨by rfl, ?_⟩; with_reducible rfl) | (refine Or.inl ⟨by rfl, ?_⟩; intro wS hSw; obtain ⟨hB, v1, y1⟩ := hSw; obtain ⟨c0, c1, c2⟩ := HC.out wS hB; go_simp; try with_reducible rfl)
              simp only [Act.put, List.setIfInBounds_toArray, List.set_cons_zero, List.set_cons_succ]
              refine wpAnyH_take (i := 6) (oi := ⟨_, _, _, _, _, _⟩) (v := ?v99) rfl (by kernel_rfl) (by kernel_rfl) (by kernel_rfl) (fun _ _ _ h => h) ?y99 hS ?_
              case y99 => first | (refine Or.inr ⟨by rfl, ?_⟩; with_reducible rfl) | (refine Or.inl ⟨by rfl, ?_⟩; intro wS hSw; obtain ⟨hB, v1, y1⟩ := hSw; obtain ⟨c0, c1, c2⟩ := HC.out wS hB; go_simp; try with_reducible rfl)
              simp only [Act.put, List.setIfInBounds_toArray, List.set_cons_zero, List.set_cons_succ]
              refine wpAnyH_take (i := 7) (oi := ⟨_, _, _, _, _, _⟩) (v := ?v100) rfl (by kernel_rfl) (by kernel_rfl) (by kernel_rfl) (fun _ _ _ h => h) ?y100 hS ?_
              case y100 => first | (refine Or.inr ⟨by rfl, ?_⟩; with_reducible rfl) | (refine Or.inl ⟨by rfl, ?_⟩; intro wS hSw; obtain ⟨hB, v1, y1⟩ := hSw; obtain ⟨c0, c1, c2⟩ := HC.out wS hB; go_simp; try with_reducible rfl)
              simp only [Act.put, List.setIfInBounds_toArray, List.set_cons_zero, List.set_cons_succ]
              refine wpAnyH_take (i := 8) (oi := ⟨_, _, _, _, _, _⟩) (v := ?v101) rfl (by kernel_rfl) (by kernel_rfl) (by kernel_rfl) (fun _ _ _ h => h) ?y101 hS ?_
              case y101 => first | (refine Or.inr ⟨by rfl, ?_⟩; with_reducible rfl) | (refine Or.inl ⟨by rfl, ?_⟩; intro wS hSw; obtain ⟨hB, v1, y1⟩ := hSw; obtain ⟨c0, c1, c2⟩ := HC.out wS hB; go_simp; try with_reducible rfl)
              simp only [Act.put, List.setIfInBounds_toArray, List.set_cons_zero, List.set_cons_succ]
              refine wpAnyH_take (i := 9) (oi := ⟨_, _, _, _, _, _⟩) (v := ?v102) rfl (by kernel_rfl) (by kernel_rfl) (by kernel_rfl) (fun _ _ _ h => h) ?y102 hS ?_
              case y102 => first | (refine Or.inr ⟨by rfl, ?_⟩; with_reducible rfl) | (refine Or.inl ⟨by rfl, ?_⟩; intro wS hSw; obtain ⟨hB, v1, y1⟩ := hSw; obtain ⟨c0, c1, c2⟩ := HC.out wS hB; go_simp; try with_reducible rfl)
              simp only [Act.put, List.setIfInBounds_toArray, List.set_cons_zero, List.set_cons_succ]
              refine wpAnyH_take (i := 10) (oi := ⟨_, _, _, _, _, _⟩) (v := ?v103) rfl (by kernel_rfl) (by kernel_rfl) (by kernel_rfl) (fun _ _ _ h => h) ?y103 hS ?_
              case y103 => first | (refine Or.inr ⟨by rfl, ?_⟩; with_reducible rfl) | (refine Or.inl ⟨by rfl, ?_⟩; intro wS hSw; obtain ⟨hB, v1, y1⟩ := hSw; obtain ⟨c0, c1, c2⟩ := HC.out wS hB; go_simp; try with_reducible rfl)
              simp only [Act.put, List.setIfInBounds_toArray, List.set_cons_zero, List.set_cons_succ]
              refine wpAnyH_take (i := 11) (oi := ⟨_, _, _, _, _, _⟩) (v := ?v104) rfl (by kernel_rfl) (by kernel_rfl) (by kernel_rfl) (fun _ _ _ h => h) ?y104 hS ?_
              case y104 => first | (refine Or.inr ⟨by rfl, ?_⟩; with_reducible rfl) | (refine Or.inl ⟨by rfl, ?_⟩; intro wS hSw; obtain ⟨hB, v1, y1⟩ := hSw; obtain ⟨c0, c1, c2⟩ := HC.out wS hB; go_simp; try with_reducible rfl)
              simp only [Act.put, List.setIfInBounds_toArray, List.set_cons_zero, List.set_cons_succ]
              refine wpAnyH_take (i := 12) (oi := ⟨_, _, _, _, _, _⟩) (v := ?v105) rfl (by kernel_rfl) (by kernel_rfl) (by kernel_rfl) (fun _ _ _ h => h) ?y105 hS ?_
              case y105 => first | (refine Or.inr ⟨by rfl, ?_⟩; with_reducible rfl) | (refine Or.inl ⟨by rfl, ?_⟩; intro wS hSw; obtain ⟨hB, v1, y1⟩ := hSw; obtain ⟨c0, c1, c2⟩ := HC.out wS hB; go_simp; try with_reducible rfl)
              simp only [Act.put, List.setIfInBounds_toArray, List.set_cons_zero, List.set_cons_succ]
              refine wpAnyH_take (i := 13) (oi := ⟨_, _, _, _, _, _⟩) (v := ?v106) rfl (by kernel_rfl) (by kernel_rfl) (by kernel_rfl) (fun _ _ _ h => h) ?y106 hS ?_
              case y106 => first | (refine Or.inr ⟨by rfl, ?_⟩; with_reducible rfl) | (refine Or.inl ⟨by rfl, ?_⟩; intro wS hSw; obtain ⟨hB, v1, y1⟩ := hSw; obtain ⟨c0, c1, c2⟩ := HC.out wS hB; go_simp; try with_reducible rfl)
              simp only [Act.put, List.setIfInBounds_toArray, List.set_cons_zero, List.set_cons_succ]
              refine wpAnyH_take (i := 14) (oi := ⟨_, _, _, _, _, _⟩) (v := ?v107) rfl (by kernel_rfl) (by kernel_rfl) (by kernel_rfl) (fun _ _ _ h => h) ?y107 hS ?_
              case y107 => first | (refine Or.inr ⟨by rfl, ?_⟩; with_reducible rfl) | (refine Or.inl ⟨by rfl, ?_⟩; intro wS hSw; obtain ⟨hB, v1, y1⟩ := hSw; obtain ⟨c0, c1, c2⟩ := HC.out wS hB; go_simp; try with_reducible rfl)
              simp only [Act.put, List.setIfInBounds_toArray, List.set_cons_zero, List.set_cons_succ]
              refine wpAnyH_take (i := 15) (oi := ⟨_, _, _, _, _, _⟩) (v := ?v108) rfl (by kernel_rfl) (by kernel_rfl) (by kernel_rfl) (fun _ _ _ h => h) ?y108 hS ?_
              case y108 => first | (refine Or.inr ⟨by rfl, ?_⟩; with_reducible rfl) | (refine Or.inl ⟨by rfl, ?_⟩; intro wS hSw; obtain ⟨hB, v1, y1⟩ := hSw; obtain ⟨c0, c1, c2⟩ := HC.out wS hB; go_simp; try with_reducible rfl)
              simp only [Act.put, List.setIfInBounds_toArray, List.set_cons_zero, List.set_cons_succ]
              refine wpAnyH_take (i := 16) (oi := ⟨_, _, _, _, _, _⟩) (v := ?v109) rfl (by kernel_rfl) (by kernel_rfl) (by kernel_rfl) (fun _ _ _ h => h) ?y109 hS ?_
              case y109 => first | (refine Or.inr ⟨by rfl, ?_⟩; with_reducible rfl) | (refine Or.inl ⟨by rfl, ?_⟩; intro wS hSw; obtain ⟨hB, v1, y1⟩ := hSw; obtain ⟨c0, c1, c2⟩ := HC.out wS hB; go_simp; try with_reducible rfl)
              simp only [Act.put, List.setIfInBounds_toArray, List.set_cons_zero, List.set_cons_succ]
              refine wpAnyH_take (i := 17) (oi := ⟨_, _, _, _, _, _⟩) (v := ?v110) rfl (by kernel_rfl) (by kernel_rfl) (by kernel_rfl) (fun _ _ _ h => h) ?y110 hS ?_
              case y110 => first | (refine Or.inr ⟨by rfl, ?_⟩; with_reducible rfl) | (refine Or.inl ⟨by rfl, ?_⟩; intro wS hSw; obtain ⟨hB, v1, y1⟩ := hSw; obtain ⟨c0, c1, c2⟩ := HC.out wS hB; go_simp; try with_reducible rfl)
              simp only [Act.put, List.setIfInBounds_toArray, List.set_cons_zero, List.set_cons_succ]
              refine wpAnyH_take (i := 18) (oi := ⟨_, _, _, _, _, _⟩) (v := ?v111) rfl (by kernel_rfl) (by kernel_rfl) (by kernel_rfl) (fun _ _ _ h => h) ?y111 hS ?_
              case y111 => first | (refine Or.inr ⟨by rfl, ?_⟩; with_reducible rfl) | (refine Or.inl ⟨by rfl, ?_⟩; intro wS hSw; obtain ⟨hB, v1, y1⟩ := hSw; obtain ⟨c0, c1, c2⟩ := HC.out wS hB; go_simp; try with_reducible rfl)
              simp only [Act.put, List.setIfInBounds_toArray, List.set_cons_zero, List.set_cons_succ]
              refine wpAnyH_take (i := 19) (oi := ⟨_, _, _, _, _, _⟩) (v := ?v112) rfl (by kernel_rfl) (by kernel_rfl) (by kernel_rfl) (fun _ _ _ h => h) ?y112 hS ?_
              case y112 => first | (refine Or.inr ⟨by rfl, ?_⟩; with_reducible rfl) | (refine Or.inl ⟨by rfl, ?_⟩; intro wS hSw; obtain ⟨hB, v1, y1⟩ := hSw; obtain ⟨c0, c1, c2⟩ := HC.out wS hB; go_simp; try with_reducible rfl)
              simp only [Act.put, List.setIfInBounds_toArray, List.set_cons_zero, List.set_cons_succ]
              refine wpAnyH_take (i := 20) (oi := ⟨_, _, _, _, _, _⟩) (v := ?v113) rfl (by kernel_rfl) (by kernel_rfl) (by kernel_rfl) (fun _ _ _ h => h) ?y113 hS ?_
              case y113 => first | (refine Or.inr ⟨by rfl, ?_⟩; with_reducible rfl) | (refine Or.inl ⟨by rfl, ?_⟩; intro wS hSw; obtain ⟨hB, v1, y1⟩ := hSw; obtain ⟨c0, c1, c2⟩ := HC.out wS hB; go_simp; try with_reducible rfl)
              simp only [Act.put, List.setIfInBounds_toArray, List.set_cons_zero, List.set_cons_succ]
              refine wpAnyH_take (i := 21) (oi := ⟨_, _, _, _, _, _⟩) (v := ?v114) rfl (by kernel_rfl) (by kernel_rfl) (by kernel_rfl) (fun _ _ _ h => h) ?y114 hS ?_
              case y114 => first | (refine Or.inr ⟨by rfl, ?_⟩; with_reducible rfl) | (refine Or.inl ⟨by rfl, ?_⟩; intro wS hSw; obtain ⟨hB, v1, y1⟩ := hSw; obtain ⟨c0, c1, c2⟩ := HC.out wS hB; go_simp; try with_reducible rfl)
              simp only [Act.put, List.setIfInBounds_toArray, List.set_cons_zero, List.set_cons_succ]
              refine wpAnyH_take (i := 22) (oi := ⟨_, _, _, _, _, _⟩) (v := ?v115) rfl (by kernel_rfl) (by kernel_rfl) (by kernel_rfl) (fun _ _ _ h => h) ?y115 hS ?_
              case y115 => first | (refine Or.inr ⟨by rfl, ?_⟩; with_reducible rfl) | (refine Or.inl ⟨by rfl, ?_⟩; intro wS hSw; obtain ⟨hB, v1, y1⟩ := hSw; obtain ⟨c0, c1, c2⟩ := HC.out wS hB; go_simp; try with_reducible rfl)
              simp only [Act.put, List.setIfInBounds_toArray, List.set_cons_zero, List.set_cons_succ]
              refine wpAnyH_take (i := 23) (oi := ⟨_, _, _, _, _, _⟩) (v := ?v116) rfl (by kernel_rfl) (by kernel_rfl) (by kernel_rfl) (fun _ _ _ h => h) ?y116 hS ?_
              case y116 => first | (refine Or.inr ⟨by rfl, ?_⟩; with_reducible rfl) | (refine Or.inl ⟨by rfl, ?_⟩; intro wS hSw; obtain ⟨hB, v1, y1⟩ := hSw; obtain ⟨c0, c1, c2⟩ := HC.out wS hB; go_simp; try with_reducible rfl)
              simp only [Act.put, List.setIfInBounds_toArray, List.set_cons_zero, List.set_cons_succ]
              refine wpAnyH_take (i := 24) (oi := ⟨_, _, _, _, _, _⟩) (v := ?v117) rfl (by kernel_rfl) (by kernel_rfl) (by kernel_rfl) (fun _ _ _ h => h) ?y117 hS ?_
              case y117 => first | (refine Or.inr ⟨by rfl, ?_⟩; with_reducible rfl) | (refine Or.inl ⟨by rfl, ?_⟩; intro wS hSw; obtain ⟨hB, v1, y1⟩ := hSw; obtain ⟨c0, c1, c2⟩ := HC.out wS hB; go_simp; try with_reducible rfl)
              simp only [Act.put, List.setIfInBounds_toArray, List.set_cons_zero, List.set_cons_succ]
              refine wpAnyH_take (i := 25) (oi := ⟨_, _, _, _, _, _⟩) (v := ?v118) rfl (by kernel_rfl) (by kernel_rfl) (by kernel_rfl) (fun _ _ _ h => h) ?y118 hS ?_
              case y118 => first | (refine Or.inr ⟨by rfl, ?_⟩; with_reducible rfl) | (refine Or.inl ⟨by rfl, ?_⟩; intro wS hSw; obtain ⟨hB, v1, y1⟩ := hSw; obtain ⟨c0, c1, c2⟩ := HC.out wS hB; go_simp; try with_reducible rfl)
              simp only [Act.put, List.setIfInBounds_toArray, List.set_cons_zero, List.set_cons_succ]
              refine wpAnyH_take (i := 26) (oi := ⟨_, _, _, _, _, _⟩) (v := ?v119) rfl (by kernel_rfl) (by kernel_rfl) (by kernel_rfl) (fun _ _ _ h => h) ?y119 hS ?_
              case y119 => first | (refine Or.inr ⟨by rfl, ?_⟩; with_reducible rfl) | (refine Or.inl ⟨by rfl, ?_⟩; intro wS hSw; obtain ⟨hB, v1, y1⟩ := hSw; obtain ⟨c0, c1, c2⟩ := HC.out wS hB; go_simp; try with_reducible rfl)
              simp only [Act.put, List.setIfInBounds_toArray, List.set_cons_zero, List.set_cons_succ]
              refine wpAnyH_take (i := 27) (oi := ⟨_, _, _, _, _, _⟩) (v := ?v120) rfl (by kernel_rfl) (by kernel_rfl) (by kernel_rfl) (fun _ _ _ h => h) ?y120 hS ?_
              case y120 => first | (refine Or.inr ⟨by rfl, ?_⟩; with_reducible rfl) | (refine Or.inl ⟨by rfl, ?_⟩; intro wS hSw; obtain ⟨hB, v1, y1⟩ := hSw; obtain ⟨c0, c1, c2⟩ := HC.out wS hB; go_simp; try with_reducible rfl)
              simp only [Act.put, List.setIfInBounds_toArray, List.set_cons_zero, List.set_cons_succ]
              refine wpAnyH_take (i := 28) (oi := ⟨_, _, _, _, _, _⟩) (v := ?v121) rfl (by kernel_rfl) (by kernel_rfl) (by kernel_rfl) (fun _ _ _ h => h) ?y121 hS ?_
              case y121 => first | (refine Or.inr ⟨by rfl, ?_⟩; with_reducible rfl) | (refine Or.inl ⟨by rfl, ?_⟩; intro wS hSw; obtain ⟨hB, v1, y1⟩ := hSw; obtain ⟨c0, c1, c2⟩ := HC.out wS hB; go_simp; try with_reducible rfl)
              simp only [Act.put, List.setIfInBounds_toArray, List.set_cons_zero, List.set_cons_succ]
              refine wpAnyH_take (i := 29) (oi := ⟨_, _, _, _, _, _⟩) (v := ?v122) rfl (by kernel_rfl) (by kernel_rfl) (by kernel_rfl) (fun _ _ _ h => h) ?y122 hS ?_
              case y122 => first | (refine Or.inr ⟨by rfl, ?_⟩; with_reducible rfl) | (refine Or.inl ⟨by rfl, ?_⟩; intro wS hSw; obtain ⟨hB, v1, y1⟩ := hSw; obtain ⟨c0, c1, c2⟩ := HC.out wS hB; go_simp; try with_reducible rfl)
              simp only [Act.put, List.setIfInBounds_toArray, List.set_cons_zero, List.set_cons_succ]
              refine wpAnyH_take (i := 30) (oi := ⟨_, _, _, _, _, _⟩) (v := ?v123) rfl (by kernel_rfl) (by kernel_rfl) (by kernel_rfl) (fun _ _ _ h => h) ?y123 hS ?_
              case y123 => first | (refine Or.inr ⟨by rfl, ?_⟩; with_reducible rfl) | (refine Or.inl ⟨by rfl, ?_⟩; intro wS hSw; obtain ⟨hB, v1, y1⟩ := hSw; obtain ⟨c0, c1, c2⟩ := HC.out wS hB; go_simp; try with_reducible rfl)
              simp only [Act.put, List.setIfInBounds_toArray, List.set_cons_zero, List.set_cons_succ]
              refine wpAnyH_take (i := 31) (oi := ⟨_, _, _, _, _, _⟩) (v := ?v124) rfl (by kernel_rfl) (by kernel_rfl) (by kernel_rfl) (fun _ _ _ h => h) ?y124 hS ?_
              case y124 => first | (refine Or.inr ⟨by rfl, ?_⟩; with_reducible rfl) | (refine Or.inl ⟨by rfl, ?_⟩; intro wS hSw; obtain ⟨hB, v1, y1⟩ := hSw; obtain ⟨c0, c1, c2⟩ := HC.out wS hB; go_simp; try with_reducible rfl)
              simp only [Act.put, List.setIfInBounds_toArray, List.set_cons_zero, List.set_cons_succ]
              refine wpAnyH_take (i := 32) (oi := ⟨_, _, _, _, _, _⟩) (v := ?v125) rfl (by kernel_rfl) (by kernel_rfl) (by kernel_rfl) (fun _ _ _ h => h) ?y125 hS ?_
              case y125 => first | (refine Or.inr ⟨by rfl, ?_⟩; with_reducible rfl) | (refine Or.inl ⟨by rfl, ?_⟩; intro wS hSw; obtain ⟨hB, v1, y1⟩ := hSw; obtain ⟨c0, c1, c2⟩ := HC.out wS hB; go_simp; try with_reducible rfl)
              simp only [Act.put, List.setIfInBounds_toArray, List.set_cons_zero, List.set_cons_succ]
              refine wpAnyH_take (i := 33) (oi := ⟨_, _, _, _, _, _⟩) (v := ?v126) rfl (by kernel_rfl) (by kernel_rfl) (by kernel_rfl) (fun _ _ _ h => h) ?y126 hS ?_
              case y126 => first | (refine Or.inr ⟨by rfl, ?_⟩; with_reducible rfl) | (refine Or.inl ⟨by rfl, ?_⟩; intro wS hSw; obtain ⟨hB, v1, y1⟩ := hSw; obtain ⟨c0, c1, c2⟩ := HC.out wS hB; go_simp; try with_reducible rfl)
              simp only [Act.put, List.setIfInBounds_toArray, List.set_cons_zero, List.set_cons_succ]
              refine wpAnyH_take (i := 34) (oi := ⟨_, _, _, _, _, _⟩) (v := ?v127) rfl (by kernel_rfl) (by kernel_rfl) (by kernel_rfl) (fun _ _ _ h => h) ?y127 hS ?_
              case y127 => first | (refine Or.inr ⟨by rfl, ?_⟩; with_reducible rfl) | (refine Or.inl ⟨by rfl, ?_⟩; intro wS hSw; obtain ⟨hB, v1, y1⟩ := hSw; obtain ⟨c0, c1, c2⟩ := HC.out wS hB; go_simp; try with_reducible rfl)
              simp only [Act.put, List.setIfInBounds_toArray, List.set_cons_zero, List.set_cons_succ]
              refine wpAnyH_take (i := 35) (oi := ⟨_, _, _, _, _, _⟩) (v := ?v128) rfl (by kernel_rfl) (by kernel_rfl) (by kernel_rfl) (fun _ _ _ h => h) ?y128 hS ?_
              case y128 => first | (refine Or.inr ⟨by rfl, ?_⟩; with_reducible rfl) | (refine Or.inl ⟨by rfl, ?_⟩; intro wS hSw; obtain ⟨hB, v1, y1⟩ := hSw; obtain ⟨c0, c1, c2⟩ := HC.out wS hB; go_simp; try with_reducible rfl)
              simp only [Act.put, List.setIfInBounds_toArray, List.set_cons_zero, List.set_cons_succ]
              refine wpAnyH_take (i := 36) (oi := ⟨_, _, _, _, _, _⟩) (v := ?v129) rfl (by kernel_rfl) (by kernel_rfl) (by kernel_rfl) (fun _ _ _ h => h) ?y129 hS ?_
              case y129 => first | (refine Or.inr ⟨by rfl, ?_⟩; with_reducible rfl) | (refine Or.inl ⟨by rfl, ?_⟩; intro wS hSw; obtain ⟨hB, v1, y1⟩ := hSw; obtain ⟨c0, c1, c2⟩ := HC.out wS hB; go_simp; try with_reducible rfl)
              simp only [Act.put, List.setIfInBounds_toArray, List.set_cons_zero, List.set_cons_succ]
              refine wpAnyH_take (i := 37) (oi := ⟨_, _, _, _, _, _⟩) (v := ?v130) rfl (by kernel_rfl) (by kernel_rfl) (by kernel_rfl) (fun _ _ _ h => h) ?y130 hS ?_
              case y130 => first | (refine Or.inr ⟨by rfl, ?_⟩; with_reducible rfl) | (refine Or.inl ⟨by rfl, ?_⟩; intro wS hSw; obtain ⟨hB, v1, y1⟩ := hSw; obtain ⟨c0, c1, c2⟩ := HC.out wS hB; go_simp; try with_reducible rfl)
              simp only [Act.put, List.setIfInBounds_toArray, List.set_cons_zero, List.set_cons_succ]
              refine wpAnyH_take (i := 38) (oi := ⟨_, _, _, _, _, _⟩) (v := ?v131) rfl (by kernel_rfl) (by kernel_rfl) (by kernel_rfl) (fun _ _ _ h => h) ?y131 hS ?_
              case y131 => first | (refine Or.inr ⟨by rfl, ?_⟩; with_reducible rfl) | (refine Or.inl ⟨by rfl, ?_⟩; intro wS hSw; obtain ⟨hB, v1, y1⟩ := hSw; obtain ⟨c0, c1, c2⟩ := HC.out wS hB; go_simp; try with_reducible rfl)
              simp only [Act.put, List.setIfInBounds_toArray, List.set_cons_zero, List.set_cons_succ]
              refine wpAnyH_take (i := 39) (oi := ⟨_, _, _, _, _, _⟩) (v := ?v132) rfl (by kernel_rfl) (by kernel_rfl) (by kernel_rfl) (fun _ _ _ h => h) ?y132 hS ?_
              case y132 => first | (refine Or.inr ⟨by rfl, ?_⟩; with_reducible rfl) | (refine Or.inl ⟨by rfl, ?_⟩; intro wS hSw; obtain ⟨hB, v1, y1⟩ := hSw; obtain ⟨c0, c1, c2⟩ := HC.out wS hB; go_simp; try with_reducible rfl)
              simp only [Act.put, List.setIfInBounds_toArray, List.set_cons_zero, List.set_cons_succ]
              refine wpAnyH_take (i := 40) (oi := ⟨_, _, _, _, _, _⟩) (v := ?v133) rfl (by kernel_rfl) (by kernel_rfl) (by kernel_rfl) (fun _ _ _ h => h) ?y133 hS ?_
              case y133 => first | (refine Or.inr ⟨by rfl, ?_⟩; with_reducible rfl) | (refine Or.inl ⟨by rfl, ?_⟩; intro wS hSw; obtain ⟨hB, v1, y1⟩ := hSw; obtain ⟨c0, c1, c2⟩ := HC.out wS hB; go_simp; try with_reducible rfl)
              simp only [Act.put, List.setIfInBounds_toArray, List.set_cons_zero, List.set_cons_succ]
              refine wpAnyH_take (i := 41) (oi := ⟨_, _, _, _, _, _⟩) (v := ?v134) rfl (by kernel_rfl) (by kernel_rfl) (by kernel_rfl) (fun _ _ _ h => h) ?y134 hS ?_
              case y134 => first | (refine Or.inr ⟨by rfl, ?_⟩; with_reducible rfl) | (refine Or.inl ⟨by rfl, ?_⟩; intro wS hSw; obtain ⟨hB, v1, y1⟩ := hSw; obtain ⟨c0, c1, c2⟩ := HC.out wS hB; go_simp; try with_reducible rfl)
              simp only [Act.put, List.setIfInBounds_toArray, List.set_cons_zero, List.set_cons_succ]
              refine wpAnyH_take (i := 42) (oi := ⟨_, _, _, _, _, _⟩) (v := ?v135) rfl (by kernel_rfl) (by kernel_rfl) (by kernel_rfl) (fun _ _ _ h => h) ?y135 hS ?_
              case y135 => first | (refine Or.inr ⟨by rfl, ?_⟩; with_reducible rfl) | (refine Or.inl ⟨by rfl, ?_⟩; intro wS hSw; obtain ⟨hB, v1, y1⟩ := hSw; obtain ⟨c0, c1, c2⟩ := HC.out wS hB; go_simp; try with_reducible rfl)
              simp only [Act.put, List.setIfInBounds_toArray, List.set_cons_zero, List.set_cons_succ]
              refine wpAnyH_done (by kernel_rfl) ?_ _
              clear hS
              go_wp2
              go_roundw
              case rel => exact ⟨j + 1, by omega, by go_num, Lib.hid HB4.out.drew⟩
              case measure => simp [intOf]; omega
            · obtain ⟨i, hi⟩ : ∃ i, i + 1 = j := ⟨j - 1, by omega⟩
              have hj1 : decide ((0 : Int) < (j : Int)) = true := by simpa using hj0
              have hj2 : decide (0 < j) = true := by simpa using hj0
              have hwj : IntKind.i64.wrap ((j : Int) - 1) = (i : Int) := (IntWalk.i64_in _ (by omega)).trans (by omega)
              have hiT : i < T.length := by rw [← HTn.out]; omega
              have hle := HPw.out i hiT hi
              obtain ⟨py, hpy⟩ : ∃ y, y = T[i] := ⟨_, rfl⟩
              rw [← hpy] at hle
              have HCq := Lib.hid (show ∀ wS, Below wd.heap.size wd wS → wS.cell? ⟨b, off + i * 3 + 2, none⟩ = some (.int .i64 py.place) from fun wS hw => by rw [hpy]; exact HCp.out wS hw i hiT hi)
              have hin : (i : Int) < tn := by omega
              have hg1 : decide (x.place < py.place) = false := by simp; omega
              clear hj0 hpy hiT
              refine wp_region_held_drew (S := fun z => Below wd.heap.size wd z ∧ z.cell? ⟨Y, 1, none⟩ = some (.int .i64 ra.x.en) ∧ z.cell? ⟨Z, 1, none⟩ = some (.int .i64 ra.x.en)) (by kernel_rfl) ⟨HB4.out.drew, v1, y1⟩ (fun hS => ?_)
              clear v1 y1 c0 c1 c2 
              refine wpAnyH_take (i := 0) (oi := ⟨_, _, _, _, _, _⟩) (v := ?v136) rfl (by kernel_rfl) (by kernel_rfl) (by kernel_rfl) (fun _ _ _ h => h) ?y136 hS ?_
              case y136 => first | (refine Or.inr ⟨by rfl, ?_⟩; with_reducible rfl) | (refine Or.inl ⟨by rfl, ?_⟩; intro wS hSw; obtain ⟨hB, v1, y1⟩ := hSw; obtain ⟨c0, c1, c2⟩ := HC.out wS hB; have cp := HCq.out wS hB; go_simp; try with_reducible rfl)
              simp only [Act.put, List.setIfInBounds_toArray, List.set_cons_zero, List.set_cons_succ]
              refine wpAnyH_take (i := 1) (oi := ⟨_, _, _, _, _, _⟩) (v := ?v137) rfl (by kernel_rfl) (by kernel_rfl) (by kernel_rfl) (fun _ _ _ h => h) ?y137 hS ?_
              case y137 => first | (refine Or.inr ⟨by rfl, ?_⟩; with_reducible rfl) | (refine Or.inl ⟨by rfl, ?_⟩; intro wS hSw; obtain ⟨hB, v1, y1⟩ := hSw; obtain ⟨c0, c1, c2⟩ := HC.out wS hB; have cp := HCq.out wS hB; go_simp; try with_reducible rfl)
              simp only [Act.put, List.setIfInBounds_toArray, List.set_cons_zero, List.set_cons_succ]
              refine wpAnyH_take (i := 2) (oi := ⟨_, _, _, _, _, _⟩) (v := ?v138) rfl (by kernel_rfl) (by kernel_rfl) (by kernel_rfl) (fun _ _ _ h => h) ?y138 hS ?_
              case y138 => first | (refine Or.inr ⟨by rfl, ?_⟩; with_reducible rfl) | (refine Or.inl ⟨by rfl, ?_⟩; intro wS hSw; obtain ⟨hB, v1, y1⟩ := hSw; obtain ⟨c0, c1, c2⟩ := HC.out wS hB; have cp := HCq.out wS hB; go_simp; try with_reducible rfl)
              simp only [Act.put, List.setIfInBounds_toArray, List.set_cons_zero, List.set_cons_succ]
              refine wpAnyH_take (i := 3) (oi := ⟨_, _, _, _, _, _⟩) (v := ?v139) rfl (by kernel_rfl) (by kernel_rfl) (by kernel_rfl) (fun _ _ _ h => h) ?y139 hS ?_
              case y139 => first | (refine Or.inr ⟨by rfl, ?_⟩; with_reducible rfl) | (refine Or.inl ⟨by rfl, ?_⟩; intro wS hSw; obtain ⟨hB, v1, y1⟩ := hSw; obtain ⟨c0, c1, c2⟩ := HC.out wS hB; have cp := HCq.out wS hB; go_simp; try with_reducible rfl)
              simp only [Act.put, List.setIfInBounds_toArray, List.set_cons_zero, List.set_cons_succ]
              refine wpAnyH_take (i := 4) (oi := ⟨_, _, _, _, _, _⟩) (v := ?v140) rfl (by kernel_rfl) (by kernel_rfl) (by kernel_rfl) (fun _ _ _ h => h) ?y140 hS ?_
              case y140 => first | (refine Or.inr ⟨by rfl, ?_⟩; with_reducible rfl) | (refine Or.inl ⟨by rfl, ?_⟩; intro wS hSw; obtain ⟨hB, v1, y1⟩ := hSw; obtain ⟨c0, c1, c2⟩ := HC.out wS hB; have cp := HCq.out wS hB; go_simp; try with_reducible rfl)
              simp only [Act.put, List.setIfInBounds_toArray, List.set_cons_zero, List.set_cons_succ]
              refine wpAnyH_take (i := 5) (oi := ⟨_, _, _, _, _, _⟩) (v := ?v141) rfl (by kernel_rfl) (by kernel_rfl) (by kernel_rfl) (fun _ _ _ h => h) ?y141 hS ?_
              case y141 => first | (refine Or.inr ⟨by rfl, ?_⟩; with_reducible rfl) | (refine Or.inl ⟨by rfl, ?_⟩; intro wS hSw; obtain ⟨hB, v1, y1⟩ := hSw; obtain ⟨c0, c1, c2⟩ := HC.out wS hB; have cp := HCq.out wS hB; go_simp; try with_reducible rfl)
              simp only [Act.put, List.setIfInBounds_toArray, List.set_cons_zero, List.set_cons_succ]
              refine wpAnyH_take (i := 6) (oi := ⟨_, _, _, _, _, _⟩) (v := ?v142) rfl (by kernel_rfl) (by kernel_rfl) (by kernel_rfl) (fun _ _ _ h => h) ?y142 hS ?_
              case y142 => first | (refine Or.inr ⟨by rfl, ?_⟩; with_reducible rfl) | (refine Or.inl ⟨by rfl, ?_⟩; intro wS hSw; obtain ⟨hB, v1, y1⟩ := hSw; obtain ⟨c0, c1, c2⟩ := HC.out wS hB; have cp := HCq.out wS hB; go_simp; try with_reducible rfl)
              simp only [Act.put, List.setIfInBounds_toArray, List.set_cons_zero, List.set_cons_succ]
              refine wpAnyH_take (i := 7) (oi := ⟨_, _, _, _, _, _⟩) (v := ?v143) rfl (by kernel_rfl) (by kernel_rfl) (by kernel_rfl) (fun _ _ _ h => h) ?y143 hS ?_
              case y143 => first | (refine Or.inr ⟨by rfl, ?_⟩; with_reducible rfl) | (refine Or.inl ⟨by rfl, ?_⟩; intro wS hSw; obtain ⟨hB, v1, y1⟩ := hSw; obtain ⟨c0, c1, c2⟩ := HC.out wS hB; have cp := HCq.out wS hB; go_simp; try with_reducible rfl)
              simp only [Act.put, List.setIfInBounds_toArray, List.set_cons_zero, List.set_cons_succ]
              refine wpAnyH_take (i := 8) (oi := ⟨_, _, _, _, _, _⟩) (v := ?v144) rfl (by kernel_rfl) (by kernel_rfl) (by kernel_rfl) (fun _ _ _ h => h) ?y144 hS ?_
              case y144 => first | (refine Or.inr ⟨by rfl, ?_⟩; with_reducible rfl) | (refine Or.inl ⟨by rfl, ?_⟩; intro wS hSw; obtain ⟨hB, v1, y1⟩ := hSw; obtain ⟨c0, c1, c2⟩ := HC.out wS hB; have cp := HCq.out wS hB; go_simp; try with_reducible rfl)
              simp only [Act.put, List.setIfInBounds_toArray, List.set_cons_zero, List.set_cons_succ]
              refine wpAnyH_take (i := 9) (oi := ⟨_, _, _, _, _, _⟩) (v := ?v145) rfl (by kernel_rfl) (by kernel_rfl) (by kernel_rfl) (fun _ _ _ h => h) ?y145 hS ?_
              case y145 => first | (refine Or.inr ⟨by rfl, ?_⟩; with_reducible rfl) | (refine Or.inl ⟨by rfl, ?_⟩; intro wS hSw; obtain ⟨hB, v1, y1⟩ := hSw; obtain ⟨c0, c1, c2⟩ := HC.out wS hB; have cp := HCq.out wS hB; go_simp; try with_reducible rfl)
              simp only [Act.put, List.setIfInBounds_toArray, List.set_cons_zero, List.set_cons_succ]
              refine wpAnyH_take (i := 10) (oi := ⟨_, _, _, _, _, _⟩) (v := ?v146) rfl (by kernel_rfl) (by kernel_rfl) (by kernel_rfl) (fun _ _ _ h => h) ?y146 hS ?_
              case y146 => first | (refine Or.inr ⟨by rfl, ?_⟩; with_reducible rfl) | (refine Or.inl ⟨by rfl, ?_⟩; intro wS hSw; obtain ⟨hB, v1, y1⟩ := hSw; obtain ⟨c0, c1, c2⟩ := HC.out wS hB; have cp := HCq.out wS hB; go_simp; try with_reducible rfl)
              simp only [Act.put, List.setIfInBounds_toArray, List.set_cons_zero, List.set_cons_succ]
              refine wpAnyH_take (i := 11) (oi := ⟨_, _, _, _, _, _⟩) (v := ?v147) rfl (by kernel_rfl) (by kernel_rfl) (by kernel_rfl) (fun _ _ _ h => h) ?y147 hS ?_
              case y147 => first | (refine Or.inr ⟨by rfl, ?_⟩; with_reducible rfl) | (refine Or.inl ⟨by rfl, ?_⟩; intro wS hSw; obtain ⟨hB, v1, y1⟩ := hSw; obtain ⟨c0, c1, c2⟩ := HC.out wS hB; have cp := HCq.out wS hB; go_simp; try with_reducible rfl)
              simp only [Act.put, List.setIfInBounds_toArray, List.set_cons_zero, List.set_cons_succ]
              refine wpAnyH_take (i := 12) (oi := ⟨_, _, _, _, _, _⟩) (v := ?v148) rfl (by kernel_rfl) (by kernel_rfl) (by kernel_rfl) (fun _ _ _ h => h) ?y148 hS ?_
              case y148 => first | (refine Or.inr ⟨by rfl, ?_⟩; with_reducible rfl) | (refine Or.inl ⟨by rfl, ?_⟩; intro wS hSw; obtain ⟨hB, v1, y1⟩ := hSw; obtain ⟨c0, c1, c2⟩ := HC.out wS hB; have cp := HCq.out wS hB; go_simp; try with_reducible rfl)
              simp only [Act.put, List.setIfInBounds_toArray, List.set_cons_zero, List.set_cons_succ]
              refine wpAnyH_take (i := 13) (oi := ⟨_, _, _, _, _, _⟩) (v := ?v149) rfl (by kernel_rfl) (by kernel_rfl) (by kernel_rfl) (fun _ _ _ h => h) ?y149 hS ?_
              case y149 => first | (refine Or.inr ⟨by rfl, ?_⟩; with_reducible rfl) | (refine Or.inl ⟨by rfl, ?_⟩; intro wS hSw; obtain ⟨hB, v1, y1⟩ := hSw; obtain ⟨c0, c1, c2⟩ := HC.out wS hB; have cp := HCq.out wS hB; go_simp; try with_reducible rfl)
              simp only [Act.put, List.setIfInBounds_toArray, List.set_cons_zero, List.set_cons_succ]
              refine wpAnyH_take (i := 14) (oi := ⟨_, _, _, _, _, _⟩) (v := ?v150) rfl (by kernel_rfl) (by kernel_rfl) (by kernel_rfl) (fun _ _ _ h => h) ?y150 hS ?_
              case y150 => first | (refine Or.inr ⟨by rfl, ?_⟩; with_reducible rfl) | (refine Or.inl ⟨by rfl, ?_⟩; intro wS hSw; obtain ⟨hB, v1, y1⟩ := hSw; obtain ⟨c0, c1, c2⟩ := HC.out wS hB; have cp := HCq.out wS hB; go_simp; try with_reducible rfl)
              simp only [Act.put, List.setIfInBounds_toArray, List.set_cons_zero, List.set_cons_succ]
              refine wpAnyH_take (i := 15) (oi := ⟨_, _, _, _, _, _⟩) (v := ?v151) rfl (by kernel_rfl) (by kernel_rfl) (by kernel_rfl) (fun _ _ _ h => h) ?y151 hS ?_
              case y151 => first | (refine Or.inr ⟨by rfl, ?_⟩; with_reducible rfl) | (refine Or.inl ⟨by rfl, ?_⟩; intro wS hSw; obtain ⟨hB, v1, y1⟩ := hSw; obtain ⟨c0, c1, c2⟩ := HC.out wS hB; have cp := HCq.out wS hB; go_simp; try with_reducible rfl)
              simp only [Act.put, List.setIfInBounds_toArray, List.set_cons_zero, List.set_cons_succ]
              refine wpAnyH_take (i := 16) (oi := ⟨_, _, _, _, _, _⟩) (v := ?v152) rfl (by kernel_rfl) (by kernel_rfl) (by kernel_rfl) (fun _ _ _ h => h) ?y152 hS ?_
              case y152 => first | (refine Or.inr ⟨by rfl, ?_⟩; with_reducible rfl) | (refine Or.inl ⟨by rfl, ?_⟩; intro wS hSw; obtain ⟨hB, v1, y1⟩ := hSw; obtain ⟨c0, c1, c2⟩ := HC.out wS hB; have cp := HCq.out wS hB; go_simp; try with_reducible rfl)
              simp only [Act.put, List.setIfInBounds_toArray, List.set_cons_zero, List.set_cons_succ]
              refine wpAnyH_take (i := 17) (oi := ⟨_, _, _, _, _, _⟩) (v := ?v153) rfl (by kernel_rfl) (by kernel_rfl) (by kernel_rfl) (fun _ _ _ h => h) ?y153 hS ?_
              case y153 => first | (refine Or.inr ⟨by rfl, ?_⟩; with_reducible rfl) | (refine Or.inl ⟨by rfl, ?_⟩; intro wS hSw; obtain ⟨hB, v1, y1⟩ := hSw; obtain ⟨c0, c1, c2⟩ := HC.out wS hB; have cp := HCq.out wS hB; go_simp; try with_reducible rfl)
              simp only [Act.put, List.setIfInBounds_toArray, List.set_cons_zero, List.set_cons_succ]
              refine wpAnyH_take (i := 18) (oi := ⟨_, _, _, _, _, _⟩) (v := ?v154) rfl (by kernel_rfl) (by kernel_rfl) (by kernel_rfl) (fun _ _ _ h => h) ?y154 hS ?_
              case y154 => first | (refine Or.inr ⟨by rfl, ?_⟩; with_reducible rfl) | (refine Or.inl ⟨by rfl, ?_⟩; intro wS hSw; obtain ⟨hB, v1, y1⟩ := hSw; obtain ⟨c0, c1, c2⟩ := HC.out wS hB; have cp := HCq.out wS hB; go_simp; try with_reducible rfl)
              simp only [Act.put, List.setIfInBounds_toArray, List.set_cons_zero, List.set_cons_succ]
              refine wpAnyH_take (i := 19) (oi := ⟨_, _, _, _, _, _⟩) (v := ?v155) rfl (by kernel_rfl) (by kernel_rfl) (by kernel_rfl) (fun _ _ _ h => h) ?y155 hS ?_
              case y155 => first | (refine Or.inr ⟨by rfl, ?_⟩; with_reducible rfl) | (refine Or.inl ⟨by rfl, ?_⟩; intro wS hSw; obtain ⟨hB, v1, y1⟩ := hSw; obtain ⟨c0, c1, c2⟩ := HC.out wS hB; have cp := HCq.out wS hB; go_simp; try with_reducible rfl)
              simp only [Act.put, List.setIfInBounds_toArray, List.set_cons_zero, List.set_cons_succ]
              refine wpAnyH_take (i := 20) (oi := ⟨_, _, _, _, _, _⟩) (v := ?v156) rfl (by kernel_rfl) (by kernel_rfl) (by kernel_rfl) (fun _ _ _ h => h) ?y156 hS ?_
              case y156 => first | (refine Or.inr ⟨by rfl, ?_⟩; with_reducible rfl) | (refine Or.inl ⟨by rfl, ?_⟩; intro wS hSw; obtain ⟨hB, v1, y1⟩ := hSw; obtain ⟨c0, c1, c2⟩ := HC.out wS hB; have cp := HCq.out wS hB; go_simp; try with_reducible rfl)
              simp only [Act.put, List.setIfInBounds_toArray, List.set_cons_zero, List.set_cons_succ]
              refine wpAnyH_take (i := 21) (oi := ⟨_, _, _, _, _, _⟩) (v := ?v157) rfl (by kernel_rfl) (by kernel_rfl) (by kernel_rfl) (fun _ _ _ h => h) ?y157 hS ?_
              case y157 => first | (refine Or.inr ⟨by rfl, ?_⟩; with_reducible rfl) | (refine Or.inl ⟨by rfl, ?_⟩; intro wS hSw; obtain ⟨hB, v1, y1⟩ := hSw; obtain ⟨c0, c1, c2⟩ := HC.out wS hB; have cp := HCq.out wS hB; go_simp; try with_reducible rfl)
              simp only [Act.put, List.setIfInBounds_toArray, List.set_cons_zero, List.set_cons_succ]
              refine wpAnyH_take (i := 22) (oi := ⟨_, _, _, _, _, _⟩) (v := ?v158) rfl (by kernel_rfl) (by kernel_rfl) (by kernel_rfl) (fun _ _ _ h => h) ?y158 hS ?_
              case y158 => first | (refine Or.inr ⟨by rfl, ?_⟩; with_reducible rfl) | (refine Or.inl ⟨by rfl, ?_⟩; intro wS hSw; obtain ⟨hB, v1, y1⟩ := hSw; obtain ⟨c0, c1, c2⟩ := HC.out wS hB; have cp := HCq.out wS hB; go_simp; try with_reducible rfl)
              simp only [Act.put, List.setIfInBounds_toArray, List.set_cons_zero, List.set_cons_succ]
              refine wpAnyH_take (i := 23) (oi := ⟨_, _, _, _, _, _⟩) (v := ?v159) rfl (by kernel_rfl) (by kernel_rfl) (by kernel_rfl) (fun _ _ _ h => h) ?y159 hS ?_
              case y159 => first | (refine Or.inr ⟨by rfl, ?_⟩; with_reducible rfl) | (refine Or.inl ⟨by rfl, ?_⟩; intro wS hSw; obtain ⟨hB, v1, y1⟩ := hSw; obtain ⟨c0, c1, c2⟩ := HC.out wS hB; have cp := HCq.out wS hB; go_simp; try with_reducible rfl)
              simp only [Act.put, List.setIfInBounds_toArray, List.set_cons_zero, List.set_cons_succ]
              refine wpAnyH_take (i := 24) (oi := ⟨_, _, _, _, _, _⟩) (v := ?v160) rfl (by kernel_rfl) (by kernel_rfl) (by kernel_rfl) (fun _ _ _ h => h) ?y160 hS ?_
              case y160 => first | (refine Or.inr ⟨by rfl, ?_⟩; with_reducible rfl) | (refine Or.inl ⟨by rfl, ?_⟩; intro wS hSw; obtain ⟨hB, v1, y1⟩ := hSw; obtain ⟨c0, c1, c2⟩ := HC.out wS hB; have cp := HCq.out wS hB; go_simp; try with_reducible rfl)
              simp only [Act.put, List.setIfInBounds_toArray, List.set_cons_zero, List.set_cons_succ]
              refine wpAnyH_take (i := 25) (oi := ⟨_, _, _, _, _, _⟩) (v := ?v161) rfl (by kernel_rfl) (by kernel_rfl) (by kernel_rfl) (fun _ _ _ h => h) ?y161 hS ?_
              case y161 => first | (refine Or.inr ⟨by rfl, ?_⟩; with_reducible rfl) | (refine Or.inl ⟨by rfl, ?_⟩; intro wS hSw; obtain ⟨hB, v1, y1⟩ := hSw; obtain ⟨c0, c1, c2⟩ := HC.out wS hB; have cp := HCq.out wS hB; go_simp; try with_reducible rfl)
              simp only [Act.put, List.setIfInBounds_toArray, List.set_cons_zero, List.set_cons_succ]
              refine wpAnyH_take (i := 26) (oi := ⟨_, _, _, _, _, _⟩) (v := ?v162) rfl (by kernel_rfl) (by kernel_rfl) (by kernel_rfl) (fun _ _ _ h => h) ?y162 hS ?_
              case y162 => first | (refine Or.inr ⟨by rfl, ?_⟩; with_reducible rfl) | (refine Or.inl ⟨by rfl, ?_⟩; intro wS hSw; obtain ⟨hB, v1, y1⟩ := hSw; obtain ⟨c0, c1, c2⟩ := HC.out wS hB; have cp := HCq.out wS hB; go_simp; try with_reducible rfl)
              simp only [Act.put, List.setIfInBounds_toArray, List.set_cons_zero, List.set_cons_succ]
              refine wpAnyH_take (i := 27) (oi := ⟨_, _, _, _, _, _⟩) (v := ?v163) rfl (by kernel_rfl) (by kernel_rfl) (by kernel_rfl) (fun _ _ _ h => h) ?y163 hS ?_
              case y163 => first | (refine Or.inr ⟨by rfl, ?_⟩; with_reducible rfl) | (refine Or.inl ⟨by rfl, ?_⟩; intro wS hSw; obtain ⟨hB, v1, y1⟩ := hSw; obtain ⟨c0, c1, c2⟩ := HC.out wS hB; have cp := HCq.out wS hB; go_simp; try with_reducible rfl)
              simp only [Act.put, List.setIfInBounds_toArray, List.set_cons_zero, List.set_cons_succ]
              refine wpAnyH_take (i := 28) (oi := ⟨_, _, _, _, _, _⟩) (v := ?v164) rfl (by kernel_rfl) (by kernel_rfl) (by kernel_rfl) (fun _ _ _ h => h) ?y164 hS ?_
              case y164 => first | (refine Or.inr ⟨by rfl, ?_⟩; with_reducible rfl) | (refine Or.inl ⟨by rfl, ?_⟩; intro wS hSw; obtain ⟨hB, v1, y1⟩ := hSw; obtain ⟨c0, c1, c2⟩ := HC.out wS hB; have cp := HCq.out wS hB; go_simp; try with_reducible rfl)
              simp only [Act.put, List.setIfInBounds_toArray, List.set_cons_zero, List.set_cons_succ]
              refine wpAnyH_take (i := 29) (oi := ⟨_, _, _, _, _, _⟩) (v := ?v165) rfl (by kernel_rfl) (by kernel_rfl) (by kernel_rfl) (fun _ _ _ h => h) ?y165 hS ?_
              case y165 => first | (refine Or.inr ⟨by rfl, ?_⟩; with_reducible rfl) | (refine Or.inl ⟨by rfl, ?_⟩; intro wS hSw; obtain ⟨hB, v1, y1⟩ := hSw; obtain ⟨c0, c1, c2⟩ := HC.out wS hB; have cp := HCq.out wS hB; go_simp; try with_reducible rfl)
              simp only [Act.put, List.setIfInBounds_toArray, List.set_cons_zero, List.set_cons_succ]
              refine wpAnyH_take (i := 30) (oi := ⟨_, _, _, _, _, _⟩) (v := ?v166) rfl (by kernel_rfl) (by kernel_rfl) (by kernel_rfl) (fun _ _ _ h => h) ?y166 hS ?_
              case y166 => first | (refine Or.inr ⟨by rfl, ?_⟩; with_reducible rfl) | (refine Or.inl ⟨by rfl, ?_⟩; intro wS hSw; obtain ⟨hB, v1, y1⟩ := hSw; obtain ⟨c0, c1, c2⟩ := HC.out wS hB; have cp := HCq.out wS hB; go_simp; try with_reducible rfl)
              simp only [Act.put, List.setIfInBounds_toArray, List.set_cons_zero, List.set_cons_succ]
              refine wpAnyH_take (i := 31) (oi := ⟨_, _, _, _, _, _⟩) (v := ?v167) rfl (by kernel_rfl) (by kernel_rfl) (by kernel_rfl) (fun _ _ _ h => h) ?y167 hS ?_
              case y167 => first | (refine Or.inr ⟨by rfl, ?_⟩; with_reducible rfl) | (refine Or.inl ⟨by rfl, ?_⟩; intro wS hSw; obtain ⟨hB, v1, y1⟩ := hSw; obtain ⟨c0, c1, c2⟩ := HC.out wS hB; have cp := HCq.out wS hB; go_simp; try with_reducible rfl)
              simp only [Act.put, List.setIfInBounds_toArray, List.set_cons_zero, List.set_cons_succ]
              refine wpAnyH_take (i := 32) (oi := ⟨_, _, _, _, _, _⟩) (v := ?v168) rfl (by kernel_rfl) (by kernel_rfl) (by kernel_rfl) (fun _ _ _ h => h) ?y168 hS ?_
              case y168 => first | (refine Or.inr ⟨by rfl, ?_⟩; with_reducible rfl) | (refine Or.inl ⟨by rfl, ?_⟩; intro wS hSw; obtain ⟨hB, v1, y1⟩ := hSw; obtain ⟨c0, c1, c2⟩ := HC.out wS hB; have cp := HCq.out wS hB; go_simp; try with_reducible rfl)
              simp only [Act.put, List.setIfInBounds_toArray, List.set_cons_zero, List.set_cons_succ]
              refine wpAnyH_take (i := 33) (oi := ⟨_, _, _, _, _, _⟩) (v := ?v169) rfl (by kernel_rfl) (by kernel_rfl) (by kernel_rfl) (fun _ _ _ h => h) ?y169 hS ?_
              case y169 => first | (refine Or.inr ⟨by rfl, ?_⟩; with_reducible rfl) | (refine Or.inl ⟨by rfl, ?_⟩; intro wS hSw; obtain ⟨hB, v1, y1⟩ := hSw; obtain ⟨c0, c1, c2⟩ := HC.out wS hB; have cp := HCq.out wS hB; go_simp; try with_reducible rfl)
              simp only [Act.put, List.setIfInBounds_toArray, List.set_cons_zero, List.set_cons_succ]
              refine wpAnyH_take (i := 34) (oi := ⟨_, _, _, _, _, _⟩) (v := ?v170) rfl (by kernel_rfl) (by kernel_rfl) (by kernel_rfl) (fun _ _ _ h => h) ?y170 hS ?_
              case y170 => first | (refine Or.inr ⟨by rfl, ?_⟩; with_reducible rfl) | (refine Or.inl ⟨by rfl, ?_⟩; intro wS hSw; obtain ⟨hB, v1, y1⟩ := hSw; obtain ⟨c0, c1, c2⟩ := HC.out wS hB; have cp := HCq.out wS hB; go_simp; try with_reducible rfl)
              simp only [Act.put, List.setIfInBounds_toArray, List.set_cons_zero, List.set_cons_succ]
              refine wpAnyH_take (i := 35) (oi := ⟨_, _, _, _, _, _⟩) (v := ?v171) rfl (by kernel_rfl) (by kernel_rfl) (by kernel_rfl) (fun _ _ _ h => h) ?y171 hS ?_
              case y171 => first | (refine Or.inr ⟨by rfl, ?_⟩; with_reducible rfl) | (refine Or.inl ⟨by rfl, ?_⟩; intro wS hSw; obtain ⟨hB, v1, y1⟩ := hSw; obtain ⟨c0, c1, c2⟩ := HC.out wS hB; have cp := HCq.out wS hB; go_simp; try with_reducible rfl)
              simp only [Act.put, List.setIfInBounds_toArray, List.set_cons_zero, List.set_cons_succ]
              refine wpAnyH_take (i := 36) (oi := ⟨_, _, _, _, _, _⟩) (v := ?v172) rfl (by kernel_rfl) (by kernel_rfl) (by kernel_rfl) (fun _ _ _ h => h) ?y172 hS ?_
              case y172 => first | (refine Or.inr ⟨by rfl, ?_⟩; with_reducible rfl) | (refine Or.inl ⟨by rfl, ?_⟩; intro wS hSw; obtain ⟨hB, v1, y1⟩ := hSw; obtain ⟨c0, c1, c2⟩ := HC.out wS hB; have cp := HCq.out wS hB; go_simp; try with_reducible rfl)
              simp only [Act.put, List.setIfInBounds_toArray, List.set_cons_zero, List.set_cons_succ]
              refine wpAnyH_take (i := 37) (oi := ⟨_, _, _, _, _, _⟩) (v := ?v173) rfl (by kernel_rfl) (by kernel_rfl) (by kernel_rfl) (fun _ _ _ h => h) ?y173 hS ?_
              case y173 => first | (refine Or.inr ⟨by rfl, ?_⟩; with_reducible rfl) | (refine Or.inl ⟨by rfl, ?_⟩; intro wS hSw; obtain ⟨hB, v1, y1⟩ := hSw; obtain ⟨c0, c1, c2⟩ := HC.out wS hB; have cp := HCq.out wS hB; go_simp; try with_reducible rfl)
              simp only [Act.put, List.setIfInBounds_toArray, List.set_cons_zero, List.set_cons_succ]
              refine wpAnyH_take (i := 38) (oi := ⟨_, _, _, _, _, _⟩) (v := ?v174) rfl (by kernel_rfl) (by kernel_rfl) (by kernel_rfl) (fun _ _ _ h => h) ?y174 hS ?_
              case y174 => first | (refine Or.inr ⟨by rfl, ?_⟩; with_reducible rfl) | (refine Or.inl ⟨by rfl, ?_⟩; intro wS hSw; obtain ⟨hB, v1, y1⟩ := hSw; obtain ⟨c0, c1, c2⟩ := HC.out wS hB; have cp := HCq.out wS hB; go_simp; try with_reducible rfl)
              simp only [Act.put, List.setIfInBounds_toArray, List.set_cons_zero, List.set_cons_succ]
              refine wpAnyH_take (i := 39) (oi := ⟨_, _, _, _, _, _⟩) (v := ?v175) rfl (by kernel_rfl) (by kernel_rfl) (by kernel_rfl) (fun _ _ _ h => h) ?y175 hS ?_
              case y175 => first | (refine Or.inr ⟨by rfl, ?_⟩; with_reducible rfl) | (refine Or.inl ⟨by rfl, ?_⟩; intro wS hSw; obtain ⟨hB, v1, y1⟩ := hSw; obtain ⟨c0, c1, c2⟩ := HC.out wS hB; have cp := HCq.out wS hB; go_simp; try with_reducible rfl)
              simp only [Act.put, List.setIfInBounds_toArray, List.set_cons_zero, List.set_cons_succ]
              refine wpAnyH_take (i := 40) (oi := ⟨_, _, _, _, _, _⟩) (v := ?v176) rfl (by kernel_rfl) (by kernel_rfl) (by kernel_rfl) (fun _ _ _ h => h) ?y176 hS ?_
              case y176 => first | (refine Or.inr ⟨by rfl, ?_⟩; with_reducible rfl) | (refine Or.inl ⟨by rfl, ?_⟩; intro wS hSw; obtain ⟨hB, v1, y1⟩ := hSw; obtain ⟨c0, c1, c2⟩ := HC.out wS hB; have cp := HCq.out wS hB; go_simp; try with_reducible rfl)
              simp only [Act.put, List.setIfInBounds_toArray, List.set_cons_zero, List.set_cons_succ]
              refine wpAnyH_take (i := 41) (oi := ⟨_, _, _, _, _, _⟩) (v := ?v177) rfl (by kernel_rfl) (by kernel_rfl) (by kernel_rfl) (fun _ _ _ h => h) ?y177 hS ?_
              case y177 => first | (refine Or.inr ⟨by rfl, ?_⟩; with_reducible rfl) | (refine Or.inl ⟨by rfl, ?_⟩; intro wS hSw; obtain ⟨hB, v1, y1⟩ := hSw; obtain ⟨c0, c1, c2⟩ := HC.out wS hB; have cp := HCq.out wS hB; go_simp; try with_reducible rfl)
              simp only [Act.put, List.setIfInBounds_toArray, List.set_cons_zero, List.set_cons_succ]
              refine wpAnyH_take (i := 42) (oi := ⟨_, _, _, _, _, _⟩) (v := ?v178) rfl (by kernel_rfl) (by kernel_rfl) (by kernel_rfl) (fun _ _ _ h => h) ?y178 hS ?_
              case y178 => first | (refine Or.inr ⟨by rfl, ?_⟩; with_reducible rfl) | (refine Or.inl ⟨by rfl, ?_⟩; intro wS hSw; obtain ⟨hB, v1, y1⟩ := hSw; obtain ⟨c0, c1, c2⟩ := HC.out wS hB; have cp := HCq.out wS hB; go_simp; try with_reducible rfl)
              simp only [Act.put, List.setIfInBounds_toArray, List.set_cons_zero, List.set_cons_succ]
              refine wpAnyH_done (by kernel_rfl) ?_ _
              clear hS
              go_wp2
              go_roundw
              case rel => exact ⟨j + 1, by omega, by go_num, Lib.hid HB4.out.drew⟩
              case measure => simp [intOf]; omega
        · obtain rfl : j = tn := by omega
          have hjt2 : ¬ (j : Int) < j := by omega
          have HMr := Lib.hid (@MeIs.later (cpW w3.heap.size wc.heap.size) _ _ _ _ _ _ _ _ _ _ _ _ HMd.out HW.out)
          have HOr := Lib.hid (HOd.out.later HW.out)
          have HSr := Lib.hid (show Below w.heap.size w wr ∧ wr.heap[X]? = some (.cells #[.int .i64 kk.rule, .int .i64 kk.level, .int .i64 kk.place] 31 (0, 0)) from ⟨HBd.out.trans (HW.out.mono HBd.out.size), (HW.out.block _ (lt_of_block HXd.out)).trans HXd.out⟩)
          have HRr := Lib.hid (row_later HRd.out HW.out)
          have HLo := Lib.hid (show L2.length = j from by have := congrArg List.length HPl.out; simpa [HTl.out] using this)
          obtain ⟨c2n, hc2⟩ : ∃ c, c = (clrK L pl).length := ⟨_, rfl⟩
          have hcn : IntKind.i64.wrap ((j : Int) - c2n) = cn := by
            have h1 := HCn.out
            rw [← hc2, ← HTl.out] at h1
            rw [h1]
            have : (clrK L pl).length ≤ L.length := List.length_filter_le ..
            rw [← hc2, ← HTl.out] at this
            exact IntWalk.i64_in _ (by omega)
          have HC2 := Lib.hid hc2
          have HNx := Lib.hid (show next < 100000 from by have := HH3.out.nk; omega)
          have HBc2 := Lib.hid (show w.heap.size ≤ w3.heap.size from HH3.out.bel.size)
          clear hc2 HMd HOd HXd HBd HRd HW
          go_upto_region 22 with (fail)
          refine wp_region_held_drew (S := fun z => Below w.heap.size w z ∧ z.heap[X]? = some (.cells #[.int .i64 kk.rule, .int .i64 kk.level, .int .i64 kk.place] 31 (0, 0))) (by kernel_rfl) ⟨HSr.out.1.drew, HSr.out.2⟩ (fun hS => ?_)
          refine wpAnyH_take (i := 0) (oi := ⟨_, _, _, _, _, _⟩) (v := ?v179) rfl (by kernel_rfl) (by kernel_rfl) (by kernel_rfl) (fun _ _ _ h => h) ?y179 hS ?_
          case y179 => first | (refine Or.inr ⟨by rfl, ?_⟩; with_reducible rfl) | (refine Or.inl ⟨by rfl, ?_⟩; intro wS hSw; obtain ⟨c0, c1, c2, -⟩ := three_box hSw.2; go_simp; try with_reducible rfl)
          simp only [Act.put, List.setIfInBounds_toArray, List.set_cons_zero, List.set_cons_succ]
          refine wpAnyH_take (i := 1) (oi := ⟨_, _, _, _, _, _⟩) (v := ?v180) rfl (by kernel_rfl) (by kernel_rfl) (by kernel_rfl) (fun _ _ _ h => h) ?y180 hS ?_
          case y180 => first | (refine Or.inr ⟨by rfl, ?_⟩; with_reducible rfl) | (refine Or.inl ⟨by rfl, ?_⟩; intro wS hSw; obtain ⟨c0, c1, c2, -⟩ := three_box hSw.2; go_simp; try with_reducible rfl)
          simp only [Act.put, List.setIfInBounds_toArray, List.set_cons_zero, List.set_cons_succ]
          refine wpAnyH_take (i := 2) (oi := ⟨_, _, _, _, _, _⟩) (v := ?v181) rfl (by kernel_rfl) (by kernel_rfl) (by kernel_rfl) (fun _ _ _ h => h) ?y181 hS ?_
          case y181 => first | (refine Or.inr ⟨by rfl, ?_⟩; with_reducible rfl) | (refine Or.inl ⟨by rfl, ?_⟩; intro wS hSw; obtain ⟨c0, c1, c2, -⟩ := three_box hSw.2; go_simp; try with_reducible rfl)
          simp only [Act.put, List.setIfInBounds_toArray, List.set_cons_zero, List.set_cons_succ]
          refine wpAnyH_take (i := 3) (oi := ⟨_, _, _, _, _, _⟩) (v := ?v182) rfl (by kernel_rfl) (by kernel_rfl) (by kernel_rfl) (fun _ _ _ h => h) ?y182 hS ?_
          case y182 => first | (refine Or.inr ⟨by rfl, ?_⟩; with_reducible rfl) | (refine Or.inl ⟨by rfl, ?_⟩; intro wS hSw; obtain ⟨c0, c1, c2, -⟩ := three_box hSw.2; go_simp; try with_reducible rfl)
          simp only [Act.put, List.setIfInBounds_toArray, List.set_cons_zero, List.set_cons_succ]
          refine wpAnyH_ready (rs := [4]) (by kernel_rfl) (by simp) ?_
          refine AllReadyH.cons (o := ⟨_, _, _, _, _, _⟩) rfl (fun K hK => ?_) AllReadyH.nil
          go_simp
          refine (@mLen_any (cpW w3.heap.size wc.heap.size) _ _ _ _ _ _ _ _ _ _ _ (@MeIs.later (cpW w3.heap.size wc.heap.size) _ _ _ _ _ _ _ _ _ _ _ _ HMr.out (Below.refl wr.heap.size wr).drew)).mono ?_
          rw [← HC2.out]
          rintro e w4 ⟨rfl, rfl⟩
          go_wp2_with fail
          refine hK.out _ _ hS (fun hSd => ?_)
          clear hSd hK K
          try simp only [Act.put, List.setIfInBounds_toArray, List.set_cons_zero, List.set_cons_succ]
          refine wpAnyH_take (i := 5) (oi := ⟨_, _, _, _, _, _⟩) (v := ?v183) rfl (by kernel_rfl) (by kernel_rfl) (by kernel_rfl) (fun _ _ _ h => h) ?y183 hS ?_
          case y183 => first | (refine Or.inr ⟨by rfl, ?_⟩; with_reducible rfl) | (refine Or.inl ⟨by rfl, ?_⟩; intro wS hSw; obtain ⟨c0, c1, c2, -⟩ := three_box hSw.2; go_simp; try with_reducible rfl)
          simp only [Act.put, List.setIfInBounds_toArray, List.set_cons_zero, List.set_cons_succ]
          refine wpAnyH_take (i := 6) (oi := ⟨_, _, _, _, _, _⟩) (v := ?v184) rfl (by kernel_rfl) (by kernel_rfl) (by kernel_rfl) (fun _ _ _ h => h) ?y184 hS ?_
          case y184 => first | (refine Or.inr ⟨by rfl, ?_⟩; with_reducible rfl) | (refine Or.inl ⟨by rfl, ?_⟩; intro wS hSw; obtain ⟨c0, c1, c2, -⟩ := three_box hSw.2; go_simp; try with_reducible rfl)
          simp only [Act.put, List.setIfInBounds_toArray, List.set_cons_zero, List.set_cons_succ]
          refine wpAnyH_take (i := 7) (oi := ⟨_, _, _, _, _, _⟩) (v := ?v185) rfl (by kernel_rfl) (by kernel_rfl) (by kernel_rfl) (fun _ _ _ h => h) ?y185 hS ?_
          case y185 => first | (refine Or.inr ⟨by rfl, ?_⟩; with_reducible rfl) | (refine Or.inl ⟨by rfl, ?_⟩; intro wS hSw; obtain ⟨c0, c1, c2, -⟩ := three_box hSw.2; go_simp; try with_reducible rfl)
          simp only [Act.put, List.setIfInBounds_toArray, List.set_cons_zero, List.set_cons_succ]
          refine wpAnyH_take (i := 8) (oi := ⟨_, _, _, _, _, _⟩) (v := ?v186) rfl (by kernel_rfl) (by kernel_rfl) (by kernel_rfl) (fun _ _ _ h => h) ?y186 hS ?_
          case y186 => first | (refine Or.inr ⟨by rfl, ?_⟩; with_reducible rfl) | (refine Or.inl ⟨by rfl, ?_⟩; intro wS hSw; obtain ⟨c0, c1, c2, -⟩ := three_box hSw.2; go_simp; try with_reducible rfl)
          simp only [Act.put, List.setIfInBounds_toArray, List.set_cons_zero, List.set_cons_succ]
          refine wpAnyH_take (i := 10) (oi := ⟨_, _, _, _, _, _⟩) (v := ?v187) rfl (by kernel_rfl) (by kernel_rfl) (by kernel_rfl) (fun _ _ _ h => h) ?y187 hS ?_
          case y187 => first | (refine Or.inr ⟨by rfl, ?_⟩; with_reducible rfl) | (refine Or.inl ⟨by rfl, ?_⟩; intro wS hSw; obtain ⟨c0, c1, c2, -⟩ := three_box hSw.2; go_simp; try with_reducible rfl)
          simp only [Act.put, List.setIfInBounds_toArray, List.set_cons_zero, List.set_cons_succ]
          refine wpAnyH_take (i := 11) (oi := ⟨_, _, _, _, _, _⟩) (v := ?v188) rfl (by kernel_rfl) (by kernel_rfl) (by kernel_rfl) (fun _ _ _ h => h) ?y188 hS ?_
          case y188 => first | (refine Or.inr ⟨by rfl, ?_⟩; with_reducible rfl) | (refine Or.inl ⟨by rfl, ?_⟩; intro wS hSw; obtain ⟨c0, c1, c2, -⟩ := three_box hSw.2; go_simp; try with_reducible rfl)
          simp only [Act.put, List.setIfInBounds_toArray, List.set_cons_zero, List.set_cons_succ]
          refine wpAnyH_ready (rs := [9]) (by kernel_rfl) (by simp) ?_
          refine AllReadyH.cons (o := ⟨_, _, _, _, _, _⟩) rfl (fun K hK => ?_) AllReadyH.nil
          go_simp
          refine (mLen_any _ (HOr.out.later (Below.refl wr.heap.size wr).drew)).mono ?_
          rw [HLo.out]
          rintro e w4 ⟨rfl, rfl⟩
          go_wp2_with fail
          refine hK.out _ _ hS (fun hSd => ?_)
          clear hSd hK K
          try simp only [Act.put, List.setIfInBounds_toArray, List.set_cons_zero, List.set_cons_succ]
          refine wpAnyH_take (i := 12) (oi := ⟨_, _, _, _, _, _⟩) (v := ?v189) rfl (by kernel_rfl) (by kernel_rfl) (by kernel_rfl) (fun _ _ _ h => h) ?y189 hS ?_
          case y189 => first | (refine Or.inr ⟨by rfl, ?_⟩; with_reducible rfl) | (refine Or.inl ⟨by rfl, ?_⟩; intro wS hSw; obtain ⟨c0, c1, c2, -⟩ := three_box hSw.2; go_simp; try with_reducible rfl)
          simp only [Act.put, List.setIfInBounds_toArray, List.set_cons_zero, List.set_cons_succ]
          refine wpAnyH_take (i := 13) (oi := ⟨_, _, _, _, _, _⟩) (v := ?v190) rfl (by kernel_rfl) (by kernel_rfl) (by kernel_rfl) (fun _ _ _ h => h) ?y190 hS ?_
          case y190 => first | (refine Or.inr ⟨by rfl, ?_⟩; with_reducible rfl) | (refine Or.inl ⟨by rfl, ?_⟩; intro wS hSw; obtain ⟨c0, c1, c2, -⟩ := three_box hSw.2; go_simp; try with_reducible rfl)
          simp only [Act.put, List.setIfInBounds_toArray, List.set_cons_zero, List.set_cons_succ]
          refine wpAnyH_take (i := 14) (oi := ⟨_, _, _, _, _, _⟩) (v := ?v191) rfl (by kernel_rfl) (by kernel_rfl) (by kernel_rfl) (fun _ _ _ h => h) ?y191 hS ?_
          case y191 => first | (refine Or.inr ⟨by rfl, ?_⟩; with_reducible rfl) | (refine Or.inl ⟨by rfl, ?_⟩; intro wS hSw; obtain ⟨c0, c1, c2, -⟩ := three_box hSw.2; go_simp; try with_reducible rfl)
          simp only [Act.put, List.setIfInBounds_toArray, List.set_cons_zero, List.set_cons_succ]
          refine wpAnyH_take (i := 15) (oi := ⟨_, _, _, _, _, _⟩) (v := ?v192) rfl (by kernel_rfl) (by kernel_rfl) (by kernel_rfl) (fun _ _ _ h => h) ?y192 hS ?_
          case y192 => first | (refine Or.inr ⟨by rfl, ?_⟩; with_reducible rfl) | (refine Or.inl ⟨by rfl, ?_⟩; intro wS hSw; obtain ⟨c0, c1, c2, -⟩ := three_box hSw.2; go_simp; try with_reducible rfl)
          simp only [Act.put, List.setIfInBounds_toArray, List.set_cons_zero, List.set_cons_succ]
          refine wpAnyH_take (i := 16) (oi := ⟨_, _, _, _, _, _⟩) (v := ?v193) rfl (by kernel_rfl) (by kernel_rfl) (by kernel_rfl) (fun _ _ _ h => h) ?y193 hS ?_
          case y193 => first | (refine Or.inr ⟨by rfl, ?_⟩; with_reducible rfl) | (refine Or.inl ⟨by rfl, ?_⟩; intro wS hSw; obtain ⟨c0, c1, c2, -⟩ := three_box hSw.2; go_simp; try with_reducible rfl)
          simp only [Act.put, List.setIfInBounds_toArray, List.set_cons_zero, List.set_cons_succ]
          refine wpAnyH_take (i := 18) (oi := ⟨_, _, _, _, _, _⟩) (v := ?v194) rfl (by kernel_rfl) (by kernel_rfl) (by kernel_rfl) (fun _ _ _ h => h) ?y194 hS ?_
          case y194 => first | (refine Or.inr ⟨by rfl, ?_⟩; with_reducible rfl) | (refine Or.inl ⟨by rfl, ?_⟩; intro wS hSw; obtain ⟨c0, c1, c2, -⟩ := three_box hSw.2; go_simp; try with_reducible rfl)
          simp only [Act.put, List.setIfInBounds_toArray, List.set_cons_zero, List.set_cons_succ]
          refine wpAnyH_take (i := 19) (oi := ⟨_, _, _, _, _, _⟩) (v := ?v195) rfl (by kernel_rfl) (by kernel_rfl) (by kernel_rfl) (fun _ _ _ h => h) ?y195 hS ?_
          case y195 => first | (refine Or.inr ⟨by rfl, ?_⟩; with_reducible rfl) | (refine Or.inl ⟨by rfl, ?_⟩; intro wS hSw; obtain ⟨c0, c1, c2, -⟩ := three_box hSw.2; go_simp; try with_reducible rfl)
          simp only [Act.put, List.setIfInBounds_toArray, List.set_cons_zero, List.set_cons_succ]
          refine wpAnyH_ready (rs := [17]) (by kernel_rfl) (by simp) ?_
          refine AllReadyH.cons (o := ⟨_, _, _, _, _, _⟩) rfl (fun K hK => ?_) AllReadyH.nil
          go_simp
          cases hin : fndK L2 kk with
          | none =>
            have HNo := Lib.hid hin
            have HIn := Lib.hid (show kk ∉ T from fun hc => by
              obtain ⟨a, ha, he⟩ := List.mem_map.1 (show kk ∈ L2.map (·.k) from by rw [pl_keys HPl.out]; exact HT.out.1.mem_iff.1 hc)
              exact fndK_none hin a ha he)
            refine (mDropN_any (k := kk) _ (HOr.out.later (Below.refl wr.heap.size wr).drew) HKk.out HNo.out).mono ?_
            rintro e w4 ⟨rfl, hb⟩
            go_wp2_with fail
            have hS4 := show Below w.heap.size w w4 ∧ w4.heap[X]? = some (.cells #[.int .i64 kk.rule, .int .i64 kk.level, .int .i64 kk.place] 31 (0, 0)) from ⟨hS.1.trans (hb.mono hS.1.size), (hb.block _ (lt_of_block hS.2)).trans hS.2⟩
            refine hK.out _ _ hS4 (fun hSd => ?_)
            clear hSd hK K
            try simp only [Act.put, List.setIfInBounds_toArray, List.set_cons_zero, List.set_cons_succ]
            have HO4 := Lib.hid (HOr.out.later ((Below.refl wr.heap.size wr).drew.trans hb))
            have HR4 := Lib.hid (row_later HRr.out ((Below.refl wr.heap.size wr).drew.trans hb))
            clear hb hin hS HOr HMr HRr HSr
            refine wpAnyH_ready (rs := [20]) (by kernel_rfl) (by simp) ?_
            refine AllReadyH.cons (o := ⟨_, _, _, _, _, _⟩) rfl (fun K hK => ?_) AllReadyH.nil
            go_simp
            have hh := has_any _ _ kk w4 (KyOwn.at (by have := HR4.out; rw [HTn.out] at this; exact this)) (by rw [← HTn.out]; omega)
            rw [← HTn.out, show decide (kk ∈ T) = false from by simpa using HIn.out] at hh
            refine hh.mono ?_
            rintro e w5 ⟨rfl, hb⟩
            go_wp2_with fail
            have hS5 := show Below w.heap.size w w5 ∧ w5.heap[X]? = some (.cells #[.int .i64 kk.rule, .int .i64 kk.level, .int .i64 kk.place] 31 (0, 0)) from ⟨hS4.1.trans (hb.mono hS4.1.size), (hb.block _ (lt_of_block hS4.2)).trans hS4.2⟩
            refine hK.out _ _ hS5 (fun hSd => ?_)
            clear hSd hK K hh hS4
            try simp only [Act.put, List.setIfInBounds_toArray, List.set_cons_zero, List.set_cons_succ]
            have HO5 := Lib.hid (HO4.out.later hb)
            clear hb HR4 HO4
            refine wpAnyH_take (i := 21) (oi := ⟨_, _, _, _, _, _⟩) (v := ?v196) rfl (by kernel_rfl) (by kernel_rfl) (by kernel_rfl) (fun _ _ _ h => h) ?y196 hS5 ?_
            case y196 => first | (refine Or.inr ⟨by rfl, ?_⟩; with_reducible rfl) | (refine Or.inl ⟨by rfl, ?_⟩; intro wS hSw; obtain ⟨c0, c1, c2, -⟩ := three_box hSw.2; go_simp; try with_reducible rfl)
            simp only [Act.put, List.setIfInBounds_toArray, List.set_cons_zero, List.set_cons_succ]
            refine wpAnyH_take (i := 22) (oi := ⟨_, _, _, _, _, _⟩) (v := ?v197) rfl (by kernel_rfl) (by kernel_rfl) (by kernel_rfl) (fun _ _ _ h => h) ?y197 hS5 ?_
            case y197 => first | (refine Or.inr ⟨by rfl, ?_⟩; with_reducible rfl) | (refine Or.inl ⟨by rfl, ?_⟩; intro wS hSw; obtain ⟨c0, c1, c2, -⟩ := three_box hSw.2; go_simp; try with_reducible rfl)
            simp only [Act.put, List.setIfInBounds_toArray, List.set_cons_zero, List.set_cons_succ]
            refine wpAnyH_take (i := 23) (oi := ⟨_, _, _, _, _, _⟩) (v := ?v198) rfl (by kernel_rfl) (by kernel_rfl) (by kernel_rfl) (fun _ _ _ h => h) ?y198 hS5 ?_
            case y198 => first | (refine Or.inr ⟨by rfl, ?_⟩; with_reducible rfl) | (refine Or.inl ⟨by rfl, ?_⟩; intro wS hSw; obtain ⟨c0, c1, c2, -⟩ := three_box hSw.2; go_simp; try with_reducible rfl)
            simp only [Act.put, List.setIfInBounds_toArray, List.set_cons_zero, List.set_cons_succ]
            refine wpAnyH_take (i := 24) (oi := ⟨_, _, _, _, _, _⟩) (v := ?v199) rfl (by kernel_rfl) (by kernel_rfl) (by kernel_rfl) (fun _ _ _ h => h) ?y199 hS5 ?_
            case y199 => first | (refine Or.inr ⟨by rfl, ?_⟩; with_reducible rfl) | (refine Or.inl ⟨by rfl, ?_⟩; intro wS hSw; obtain ⟨c0, c1, c2, -⟩ := three_box hSw.2; go_simp; try with_reducible rfl)
            simp only [Act.put, List.setIfInBounds_toArray, List.set_cons_zero, List.set_cons_succ]
            refine wpAnyH_take (i := 25) (oi := ⟨_, _, _, _, _, _⟩) (v := ?v200) rfl (by kernel_rfl) (by kernel_rfl) (by kernel_rfl) (fun _ _ _ h => h) ?y200 hS5 ?_
            case y200 => first | (refine Or.inr ⟨by rfl, ?_⟩; with_reducible rfl) | (refine Or.inl ⟨by rfl, ?_⟩; intro wS hSw; obtain ⟨c0, c1, c2, -⟩ := three_box hSw.2; go_simp; try with_reducible rfl)
            simp only [Act.put, List.setIfInBounds_toArray, List.set_cons_zero, List.set_cons_succ]
            refine wpAnyH_ready (rs := [26]) (by kernel_rfl) (by simp) ?_
            refine AllReadyH.cons (o := ⟨_, _, _, _, _, _⟩) rfl (fun K hK => ?_) AllReadyH.nil
            go_simp
            refine (mDropN_any (k := kk) w5 HO5.out HKk.out HNo.out).mono ?_
            rintro e w6 ⟨rfl, hb⟩
            go_wp2_with fail
            have hS6 := show Below w.heap.size w w6 ∧ w6.heap[X]? = some (.cells #[.int .i64 kk.rule, .int .i64 kk.level, .int .i64 kk.place] 31 (0, 0)) from ⟨hS5.1.trans (hb.mono hS5.1.size), (hb.block _ (lt_of_block hS5.2)).trans hS5.2⟩
            refine hK.out _ _ hS6 (fun hSd => ?_)
            clear hSd hK K hS5
            try simp only [Act.put, List.setIfInBounds_toArray, List.set_cons_zero, List.set_cons_succ]
            have HO6 := Lib.hid (HO5.out.later hb)
            clear hb HO5
            refine wpAnyH_take (i := 27) (oi := ⟨_, _, _, _, _, _⟩) (v := ?v201) rfl (by kernel_rfl) (by kernel_rfl) (by kernel_rfl) (fun _ _ _ h => h) ?y201 hS6 ?_
            case y201 => first | (refine Or.inr ⟨by rfl, ?_⟩; with_reducible rfl) | (refine Or.inl ⟨by rfl, ?_⟩; intro wS hSw; obtain ⟨c0, c1, c2, -⟩ := three_box hSw.2; go_simp; try with_reducible rfl)
            simp only [Act.put, List.setIfInBounds_toArray, List.set_cons_zero, List.set_cons_succ]
            refine wpAnyH_done (by kernel_rfl) ?_ _
            have HS6 := Lib.hid hS6
            obtain ⟨c0, c1, c2, -⟩ := three_box HS6.out.2
            clear hS6
            go_wp2_with fail
            refine (mGetN_any (k := kk) _ HO6.out HKk.out HNo.out).mono ?_
            rintro e w7 ⟨rfl, hb⟩
            have HS7 := Lib.hid (show Below w.heap.size w w7 ∧ w7.heap[X]? = some (.cells #[.int .i64 kk.rule, .int .i64 kk.level, .int .i64 kk.place] 31 (0, 0)) from ⟨HS6.out.1.trans (hb.mono HS6.out.1.size), (hb.block _ (lt_of_block HS6.out.2)).trans HS6.out.2⟩)
            have HO7 := Lib.hid (HO6.out.later hb)
            clear hb c0 c1 c2 HS6 HO6
            go_upto_region 25 with (fail)
            refine gen_world (S := fun z => Below w7.heap.size w7 z) (one_new w7 _).1 (fun z0 hb => ?_)
            have HS8 := Lib.hid (show Below w.heap.size w z0 ∧ z0.heap[X]? = some (.cells #[.int .i64 kk.rule, .int .i64 kk.level, .int .i64 kk.place] 31 (0, 0)) from ⟨HS7.out.1.trans (hb.mono HS7.out.1.size), (hb.block _ (lt_of_block HS7.out.2)).trans HS7.out.2⟩)
            have HO8 := Lib.hid (HO7.out.later hb)
            clear hb HS7 HO7
            refine wp_region_held_drew (S := fun z => Below w.heap.size w z ∧ z.heap[X]? = some (.cells #[.int .i64 kk.rule, .int .i64 kk.level, .int .i64 kk.place] 31 (0, 0))) (by kernel_rfl) ⟨HS8.out.1.drew, HS8.out.2⟩ (fun hS => ?_)
            refine wpAnyH_take (i := 0) (oi := ⟨_, _, _, _, _, _⟩) (v := ?v202) rfl (by kernel_rfl) (by kernel_rfl) (by kernel_rfl) (fun _ _ _ h => h) ?y202 hS ?_
            case y202 => first | (refine Or.inr ⟨by rfl, ?_⟩; with_reducible rfl) | (refine Or.inl ⟨by rfl, ?_⟩; intro wS hSw; obtain ⟨c0, c1, c2, -⟩ := three_box hSw.2; go_simp; try with_reducible rfl)
            simp only [Act.put, List.setIfInBounds_toArray, List.set_cons_zero, List.set_cons_succ]
            refine wpAnyH_take (i := 1) (oi := ⟨_, _, _, _, _, _⟩) (v := ?v203) rfl (by kernel_rfl) (by kernel_rfl) (by kernel_rfl) (fun _ _ _ h => h) ?y203 hS ?_
            case y203 => first | (refine Or.inr ⟨by rfl, ?_⟩; with_reducible rfl) | (refine Or.inl ⟨by rfl, ?_⟩; intro wS hSw; obtain ⟨c0, c1, c2, -⟩ := three_box hSw.2; go_simp; try with_reducible rfl)
            simp only [Act.put, List.setIfInBounds_toArray, List.set_cons_zero, List.set_cons_succ]
            refine wpAnyH_ready (rs := [2]) (by kernel_rfl) (by simp) ?_
            refine AllReadyH.cons (o := ⟨_, _, _, _, _, _⟩) rfl (fun K hK => ?_) AllReadyH.nil
            go_simp
            refine (some_any 7 _).mono ?_
            rintro e z1 ⟨rfl, hb⟩
            go_wp2_with fail
            have hS1 := show Below w.heap.size w z1 ∧ z1.heap[X]? = some (.cells #[.int .i64 kk.rule, .int .i64 kk.level, .int .i64 kk.place] 31 (0, 0)) from ⟨hS.1.trans (hb.mono hS.1.size), (hb.block _ (lt_of_block hS.2)).trans hS.2⟩
            refine hK.out _ _ hS1 (fun hSd => ?_)
            clear hSd hK K
            try simp only [Act.put, List.setIfInBounds_toArray, List.set_cons_zero, List.set_cons_succ]
            have HO9 := Lib.hid (HO8.out.later ((Below.refl z0.heap.size z0).drew.trans hb))
            clear hb hS HO8 HS8
            refine wpAnyH_ready (rs := [3]) (by kernel_rfl) (by simp) ?_
            refine AllReadyH.cons (o := ⟨_, _, _, _, _, _⟩) rfl (fun K hK => ?_) AllReadyH.nil
            go_simp
            refine (put_one (k := kk) z1 HO9.out HKk.out HNo.out HNx.out).mono ?_
            rintro e z2 ⟨v, next', peak', L', r', rfl, hm, hf, hen, hnx2, hk⟩
            go_wp2_with fail
            have hS2 := show Below w.heap.size w z2 ∧ z2.heap[X]? = some (.cells #[.int .i64 kk.rule, .int .i64 kk.level, .int .i64 kk.place] 31 (0, 0)) from ⟨hS1.1.trans ((hk.below HO9.out.base_le).mono HBc2.out), hk.cells hS1.2 (by decide)⟩
            refine hK.out _ _ hS2 (fun hSd => ?_)
            clear hSd hK K
            try simp only [Act.put, List.setIfInBounds_toArray, List.set_cons_zero, List.set_cons_succ]
            have HOa := Lib.hid hm
            have HFa := Lib.hid hf
            have HEa := Lib.hid hen
            have HNa := Lib.hid hnx2
            clear hm hf hen hnx2 hk hS1 HO9
            refine wpAnyH_take (i := 4) (oi := ⟨_, _, _, _, _, _⟩) (v := ?v204) rfl (by kernel_rfl) (by kernel_rfl) (by kernel_rfl) (fun _ _ _ h => h) ?y204 hS2 ?_
            case y204 => first | (refine Or.inr ⟨by rfl, ?_⟩; with_reducible rfl) | (refine Or.inl ⟨by rfl, ?_⟩; intro wS hSw; obtain ⟨c0, c1, c2, -⟩ := three_box hSw.2; go_simp; try with_reducible rfl)
            simp only [Act.put, List.setIfInBounds_toArray, List.set_cons_zero, List.set_cons_succ]
            refine wpAnyH_take (i := 5) (oi := ⟨_, _, _, _, _, _⟩) (v := ?v205) rfl (by kernel_rfl) (by kernel_rfl) (by kernel_rfl) (fun _ _ _ h => h) ?y205 hS2 ?_
            case y205 => first | (refine Or.inr ⟨by rfl, ?_⟩; with_reducible rfl) | (refine Or.inl ⟨by rfl, ?_⟩; intro wS hSw; obtain ⟨c0, c1, c2, -⟩ := three_box hSw.2; go_simp; try with_reducible rfl)
            simp only [Act.put, List.setIfInBounds_toArray, List.set_cons_zero, List.set_cons_succ]
            refine wpAnyH_take (i := 6) (oi := ⟨_, _, _, _, _, _⟩) (v := ?v206) rfl (by kernel_rfl) (by kernel_rfl) (by kernel_rfl) (fun _ _ _ h => h) ?y206 hS2 ?_
            case y206 => first | (refine Or.inr ⟨by rfl, ?_⟩; with_reducible rfl) | (refine Or.inl ⟨by rfl, ?_⟩; intro wS hSw; obtain ⟨c0, c1, c2, -⟩ := three_box hSw.2; go_simp; try with_reducible rfl)
            simp only [Act.put, List.setIfInBounds_toArray, List.set_cons_zero, List.set_cons_succ]
            refine wpAnyH_take (i := 7) (oi := ⟨_, _, _, _, _, _⟩) (v := ?v207) rfl (by kernel_rfl) (by kernel_rfl) (by kernel_rfl) (fun _ _ _ h => h) ?y207 hS2 ?_
            case y207 => first | (refine Or.inr ⟨by rfl, ?_⟩; with_reducible rfl) | (refine Or.inl ⟨by rfl, ?_⟩; intro wS hSw; obtain ⟨c0, c1, c2, -⟩ := three_box hSw.2; go_simp; try with_reducible rfl)
            simp only [Act.put, List.setIfInBounds_toArray, List.set_cons_zero, List.set_cons_succ]
            refine wpAnyH_take (i := 8) (oi := ⟨_, _, _, _, _, _⟩) (v := ?v208) rfl (by kernel_rfl) (by kernel_rfl) (by kernel_rfl) (fun _ _ _ h => h) ?y208 hS2 ?_
            case y208 => first | (refine Or.inr ⟨by rfl, ?_⟩; with_reducible rfl) | (refine Or.inl ⟨by rfl, ?_⟩; intro wS hSw; obtain ⟨c0, c1, c2, -⟩ := three_box hSw.2; go_simp; try with_reducible rfl)
            simp only [Act.put, List.setIfInBounds_toArray, List.set_cons_zero, List.set_cons_succ]
            refine wpAnyH_done (by kernel_rfl) ?_ _
            have HSa := Lib.hid hS2
            obtain ⟨c0, c1, c2, -⟩ := three_box HSa.out.2
            clear hS2
            go_wp2_with fail
            refine (mGet_any (k := kk) _ HOa.out HFa.out (by rw [HNa.out.1]; simp) (by rw [HNa.out.2]; simp)).mono ?_
            rintro e z3 ⟨tv2, kv2, rfl, ho1, ho2, hb⟩
            obtain ⟨xa2, xc2, rfl⟩ := own_val ho1
            obtain ⟨ya2, yc2, rfl⟩ := own_val ho2
            have HSb := Lib.hid (HSa.out.1.trans (hb.mono HSa.out.1.size))
            clear ho1 ho2 hb c0 c1 c2 HSa HOa
            rw [HEa.out]
            go_wp2
            go_ret
            exact ⟨rfl, HSb.out.alloc HSb.out.size _⟩
          | some rr =>
            have HRk := Lib.hid hin
            have HIn := Lib.hid (show kk ∈ T from HT.out.1.mem_iff.2 (by
              rw [← pl_keys HPl.out]
              obtain ⟨h1, h2⟩ := fndK_some hin
              exact List.mem_map.2 ⟨rr, h1, h2⟩))
            have HNo := Lib.hid (show fndK (dropK L2 kk) kk = none from by rw [fndK_drop HOr.out.ln.ord.once, if_pos rfl])
            refine (mDrop_any (k := kk) _ (HOr.out.later (Below.refl wr.heap.size wr).drew) hin).mono ?_
            rintro e w4 ⟨rfl, hm, hk⟩
            go_wp2_with fail
            have hS4 := show Below w.heap.size w w4 ∧ w4.heap[X]? = some (.cells #[.int .i64 kk.rule, .int .i64 kk.level, .int .i64 kk.place] 31 (0, 0)) from ⟨hS.1.trans ((hk.below HOr.out.base_le).mono HBc2.out), hk.cells hS.2 (by decide)⟩
            refine hK.out _ _ hS4 (fun hSd => ?_)
            clear hSd hK K
            try simp only [Act.put, List.setIfInBounds_toArray, List.set_cons_zero, List.set_cons_succ]
            have HO4 := Lib.hid hm
            have HR4 := Lib.hid (hk.row (row_later HRr.out (Below.refl wr.heap.size wr).drew) (by decide))
            clear hk hm hin hS HOr HMr HRr HSr
            refine wpAnyH_ready (rs := [20]) (by kernel_rfl) (by simp) ?_
            refine AllReadyH.cons (o := ⟨_, _, _, _, _, _⟩) rfl (fun K hK => ?_) AllReadyH.nil
            go_simp
            have hh := has_any _ _ kk w4 (KyOwn.at (by have := HR4.out; rw [HTn.out] at this; exact this)) (by rw [← HTn.out]; omega)
            rw [← HTn.out, show decide (kk ∈ T) = true from by simpa using HIn.out] at hh
            refine hh.mono ?_
            rintro e w5 ⟨rfl, hb⟩
            go_wp2_with fail
            have hS5 := show Below w.heap.size w w5 ∧ w5.heap[X]? = some (.cells #[.int .i64 kk.rule, .int .i64 kk.level, .int .i64 kk.place] 31 (0, 0)) from ⟨hS4.1.trans (hb.mono hS4.1.size), (hb.block _ (lt_of_block hS4.2)).trans hS4.2⟩
            refine hK.out _ _ hS5 (fun hSd => ?_)
            clear hSd hK K hh hS4
            try simp only [Act.put, List.setIfInBounds_toArray, List.set_cons_zero, List.set_cons_succ]
            have HO5 := Lib.hid (HO4.out.later hb)
            clear hb HR4 HO4
            refine wpAnyH_take (i := 21) (oi := ⟨_, _, _, _, _, _⟩) (v := ?v209) rfl (by kernel_rfl) (by kernel_rfl) (by kernel_rfl) (fun _ _ _ h => h) ?y209 hS5 ?_
            case y209 => first | (refine Or.inr ⟨by rfl, ?_⟩; with_reducible rfl) | (refine Or.inl ⟨by rfl, ?_⟩; intro wS hSw; obtain ⟨c0, c1, c2, -⟩ := three_box hSw.2; go_simp; try with_reducible rfl)
            simp only [Act.put, List.setIfInBounds_toArray, List.set_cons_zero, List.set_cons_succ]
            refine wpAnyH_take (i := 22) (oi := ⟨_, _, _, _, _, _⟩) (v := ?v210) rfl (by kernel_rfl) (by kernel_rfl) (by kernel_rfl) (fun _ _ _ h => h) ?y210 hS5 ?_
            case y210 => first | (refine Or.inr ⟨by rfl, ?_⟩; with_reducible rfl) | (refine Or.inl ⟨by rfl, ?_⟩; intro wS hSw; obtain ⟨c0, c1, c2, -⟩ := three_box hSw.2; go_simp; try with_reducible rfl)
            simp only [Act.put, List.setIfInBounds_toArray, List.set_cons_zero, List.set_cons_succ]
            refine wpAnyH_take (i := 23) (oi := ⟨_, _, _, _, _, _⟩) (v := ?v211) rfl (by kernel_rfl) (by kernel_rfl) (by kernel_rfl) (fun _ _ _ h => h) ?y211 hS5 ?_
            case y211 => first | (refine Or.inr ⟨by rfl, ?_⟩; with_reducible rfl) | (refine Or.inl ⟨by rfl, ?_⟩; intro wS hSw; obtain ⟨c0, c1, c2, -⟩ := three_box hSw.2; go_simp; try with_reducible rfl)
            simp only [Act.put, List.setIfInBounds_toArray, List.set_cons_zero, List.set_cons_succ]
            refine wpAnyH_take (i := 24) (oi := ⟨_, _, _, _, _, _⟩) (v := ?v212) rfl (by kernel_rfl) (by kernel_rfl) (by kernel_rfl) (fun _ _ _ h => h) ?y212 hS5 ?_
            case y212 => first | (refine Or.inr ⟨by rfl, ?_⟩; with_reducible rfl) | (refine Or.inl ⟨by rfl, ?_⟩; intro wS hSw; obtain ⟨c0, c1, c2, -⟩ := three_box hSw.2; go_simp; try with_reducible rfl)
            simp only [Act.put, List.setIfInBounds_toArray, List.set_cons_zero, List.set_cons_succ]
            refine wpAnyH_take (i := 25) (oi := ⟨_, _, _, _, _, _⟩) (v := ?v213) rfl (by kernel_rfl) (by kernel_rfl) (by kernel_rfl) (fun _ _ _ h => h) ?y213 hS5 ?_
            case y213 => first | (refine Or.inr ⟨by rfl, ?_⟩; with_reducible rfl) | (refine Or.inl ⟨by rfl, ?_⟩; intro wS hSw; obtain ⟨c0, c1, c2, -⟩ := three_box hSw.2; go_simp; try with_reducible rfl)
            simp only [Act.put, List.setIfInBounds_toArray, List.set_cons_zero, List.set_cons_succ]
            refine wpAnyH_ready (rs := [26]) (by kernel_rfl) (by simp) ?_
            refine AllReadyH.cons (o := ⟨_, _, _, _, _, _⟩) rfl (fun K hK => ?_) AllReadyH.nil
            go_simp
            refine (mDropN_any (k := kk) w5 HO5.out HKk.out HNo.out).mono ?_
            rintro e w6 ⟨rfl, hb⟩
            go_wp2_with fail
            have hS6 := show Below w.heap.size w w6 ∧ w6.heap[X]? = some (.cells #[.int .i64 kk.rule, .int .i64 kk.level, .int .i64 kk.place] 31 (0, 0)) from ⟨hS5.1.trans (hb.mono hS5.1.size), (hb.block _ (lt_of_block hS5.2)).trans hS5.2⟩
            refine hK.out _ _ hS6 (fun hSd => ?_)
            clear hSd hK K hS5
            try simp only [Act.put, List.setIfInBounds_toArray, List.set_cons_zero, List.set_cons_succ]
            have HO6 := Lib.hid (HO5.out.later hb)
            clear hb HO5
            refine wpAnyH_take (i := 27) (oi := ⟨_, _, _, _, _, _⟩) (v := ?v214) rfl (by kernel_rfl) (by kernel_rfl) (by kernel_rfl) (fun _ _ _ h => h) ?y214 hS6 ?_
            case y214 => first | (refine Or.inr ⟨by rfl, ?_⟩; with_reducible rfl) | (refine Or.inl ⟨by rfl, ?_⟩; intro wS hSw; obtain ⟨c0, c1, c2, -⟩ := three_box hSw.2; go_simp; try with_reducible rfl)
            simp only [Act.put, List.setIfInBounds_toArray, List.set_cons_zero, List.set_cons_succ]
            refine wpAnyH_done (by kernel_rfl) ?_ _
            have HS6 := Lib.hid hS6
            obtain ⟨c0, c1, c2, -⟩ := three_box HS6.out.2
            clear hS6
            go_wp2_with fail
            refine (mGetN_any (k := kk) _ HO6.out HKk.out HNo.out).mono ?_
            rintro e w7 ⟨rfl, hb⟩
            have HS7 := Lib.hid (show Below w.heap.size w w7 ∧ w7.heap[X]? = some (.cells #[.int .i64 kk.rule, .int .i64 kk.level, .int .i64 kk.place] 31 (0, 0)) from ⟨HS6.out.1.trans (hb.mono HS6.out.1.size), (hb.block _ (lt_of_block HS6.out.2)).trans HS6.out.2⟩)
            have HO7 := Lib.hid (HO6.out.later hb)
            clear hb c0 c1 c2 HS6 HO6
            go_upto_region 25 with (fail)
            refine gen_world (S := fun z => Below w7.heap.size w7 z) (one_new w7 _).1 (fun z0 hb => ?_)
            have HS8 := Lib.hid (show Below w.heap.size w z0 ∧ z0.heap[X]? = some (.cells #[.int .i64 kk.rule, .int .i64 kk.level, .int .i64 kk.place] 31 (0, 0)) from ⟨HS7.out.1.trans (hb.mono HS7.out.1.size), (hb.block _ (lt_of_block HS7.out.2)).trans HS7.out.2⟩)
            have HO8 := Lib.hid (HO7.out.later hb)
            clear hb HS7 HO7
            refine wp_region_held_drew (S := fun z => Below w.heap.size w z ∧ z.heap[X]? = some (.cells #[.int .i64 kk.rule, .int .i64 kk.level, .int .i64 kk.place] 31 (0, 0))) (by kernel_rfl) ⟨HS8.out.1.drew, HS8.out.2⟩ (fun hS => ?_)
            refine wpAnyH_take (i := 0) (oi := ⟨_, _, _, _, _, _⟩) (v := ?v215) rfl (by kernel_rfl) (by kernel_rfl) (by kernel_rfl) (fun _ _ _ h => h) ?y215 hS ?_
            case y215 => first | (refine Or.inr ⟨by rfl, ?_⟩; with_reducible rfl) | (refine Or.inl ⟨by rfl, ?_⟩; intro wS hSw; obtain ⟨c0, c1, c2, -⟩ := three_box hSw.2; go_simp; try with_reducible rfl)
            simp only [Act.put, List.setIfInBounds_toArray, List.set_cons_zero, List.set_cons_succ]
            refine wpAnyH_take (i := 1) (oi := ⟨_, _, _, _, _, _⟩) (v := ?v216) rfl (by kernel_rfl) (by kernel_rfl) (by kernel_rfl) (fun _ _ _ h => h) ?y216 hS ?_
            case y216 => first | (refine Or.inr ⟨by rfl, ?_⟩; with_reducible rfl) | (refine Or.inl ⟨by rfl, ?_⟩; intro wS hSw; obtain ⟨c0, c1, c2, -⟩ := three_box hSw.2; go_simp; try with_reducible rfl)
            simp only [Act.put, List.setIfInBounds_toArray, List.set_cons_zero, List.set_cons_succ]
            refine wpAnyH_ready (rs := [2]) (by kernel_rfl) (by simp) ?_
            refine AllReadyH.cons (o := ⟨_, _, _, _, _, _⟩) rfl (fun K hK => ?_) AllReadyH.nil
            go_simp
            refine (some_any 7 _).mono ?_
            rintro e z1 ⟨rfl, hb⟩
            go_wp2_with fail
            have hS1 := show Below w.heap.size w z1 ∧ z1.heap[X]? = some (.cells #[.int .i64 kk.rule, .int .i64 kk.level, .int .i64 kk.place] 31 (0, 0)) from ⟨hS.1.trans (hb.mono hS.1.size), (hb.block _ (lt_of_block hS.2)).trans hS.2⟩
            refine hK.out _ _ hS1 (fun hSd => ?_)
            clear hSd hK K
            try simp only [Act.put, List.setIfInBounds_toArray, List.set_cons_zero, List.set_cons_succ]
            have HO9 := Lib.hid (HO8.out.later ((Below.refl z0.heap.size z0).drew.trans hb))
            clear hb hS HO8 HS8
            refine wpAnyH_ready (rs := [3]) (by kernel_rfl) (by simp) ?_
            refine AllReadyH.cons (o := ⟨_, _, _, _, _, _⟩) rfl (fun K hK => ?_) AllReadyH.nil
            go_simp
            refine (put_one (k := kk) z1 HO9.out HKk.out HNo.out HNx.out).mono ?_
            rintro e z2 ⟨v, next', peak', L', r', rfl, hm, hf, hen, hnx2, hk⟩
            go_wp2_with fail
            have hS2 := show Below w.heap.size w z2 ∧ z2.heap[X]? = some (.cells #[.int .i64 kk.rule, .int .i64 kk.level, .int .i64 kk.place] 31 (0, 0)) from ⟨hS1.1.trans ((hk.below HO9.out.base_le).mono HBc2.out), hk.cells hS1.2 (by decide)⟩
            refine hK.out _ _ hS2 (fun hSd => ?_)
            clear hSd hK K
            try simp only [Act.put, List.setIfInBounds_toArray, List.set_cons_zero, List.set_cons_succ]
            have HOa := Lib.hid hm
            have HFa := Lib.hid hf
            have HEa := Lib.hid hen
            have HNa := Lib.hid hnx2
            clear hm hf hen hnx2 hk hS1 HO9
            refine wpAnyH_take (i := 4) (oi := ⟨_, _, _, _, _, _⟩) (v := ?v217) rfl (by kernel_rfl) (by kernel_rfl) (by kernel_rfl) (fun _ _ _ h => h) ?y217 hS2 ?_
            case y217 => first | (refine Or.inr ⟨by rfl, ?_⟩; with_reducible rfl) | (refine Or.inl ⟨by rfl, ?_⟩; intro wS hSw; obtain ⟨c0, c1, c2, -⟩ := three_box hSw.2; go_simp; try with_reducible rfl)
            simp only [Act.put, List.setIfInBounds_toArray, List.set_cons_zero, List.set_cons_succ]
            refine wpAnyH_take (i := 5) (oi := ⟨_, _, _, _, _, _⟩) (v := ?v218) rfl (by kernel_rfl) (by kernel_rfl) (by kernel_rfl) (fun _ _ _ h => h) ?y218 hS2 ?_
            case y218 => first | (refine Or.inr ⟨by rfl, ?_⟩; with_reducible rfl) | (refine Or.inl ⟨by rfl, ?_⟩; intro wS hSw; obtain ⟨c0, c1, c2, -⟩ := three_box hSw.2; go_simp; try with_reducible rfl)
            simp only [Act.put, List.setIfInBounds_toArray, List.set_cons_zero, List.set_cons_succ]
            refine wpAnyH_take (i := 6) (oi := ⟨_, _, _, _, _, _⟩) (v := ?v219) rfl (by kernel_rfl) (by kernel_rfl) (by kernel_rfl) (fun _ _ _ h => h) ?y219 hS2 ?_
            case y219 => first | (refine Or.inr ⟨by rfl, ?_⟩; with_reducible rfl) | (refine Or.inl ⟨by rfl, ?_⟩; intro wS hSw; obtain ⟨c0, c1, c2, -⟩ := three_box hSw.2; go_simp; try with_reducible rfl)
            simp only [Act.put, List.setIfInBounds_toArray, List.set_cons_zero, List.set_cons_succ]
            refine wpAnyH_take (i := 7) (oi := ⟨_, _, _, _, _, _⟩) (v := ?v220) rfl (by kernel_rfl) (by kernel_rfl) (by kernel_rfl) (fun _ _ _ h => h) ?y220 hS2 ?_
            case y220 => first | (refine Or.inr ⟨by rfl, ?_⟩; with_reducible rfl) | (refine Or.inl ⟨by rfl, ?_⟩; intro wS hSw; obtain ⟨c0, c1, c2, -⟩ := three_box hSw.2; go_simp; try with_reducible rfl)
            simp only [Act.put, List.setIfInBounds_toArray, List.set_cons_zero, List.set_cons_succ]
            refine wpAnyH_take (i := 8) (oi := ⟨_, _, _, _, _, _⟩) (v := ?v221) rfl (by kernel_rfl) (by kernel_rfl) (by kernel_rfl) (fun _ _ _ h => h) ?y221 hS2 ?_
            case y221 => first | (refine Or.inr ⟨by rfl, ?_⟩; with_reducible rfl) | (refine Or.inl ⟨by rfl, ?_⟩; intro wS hSw; obtain ⟨c0, c1, c2, -⟩ := three_box hSw.2; go_simp; try with_reducible rfl)
            simp only [Act.put, List.setIfInBounds_toArray, List.set_cons_zero, List.set_cons_succ]
            refine wpAnyH_done (by kernel_rfl) ?_ _
            have HSa := Lib.hid hS2
            obtain ⟨c0, c1, c2, -⟩ := three_box HSa.out.2
            clear hS2
            go_wp2_with fail
            refine (mGet_any (k := kk) _ HOa.out HFa.out (by rw [HNa.out.1]; simp) (by rw [HNa.out.2]; simp)).mono ?_
            rintro e z3 ⟨tv2, kv2, rfl, ho1, ho2, hb⟩
            obtain ⟨xa2, xc2, rfl⟩ := own_val ho1
            obtain ⟨ya2, yc2, rfl⟩ := own_val ho2
            have HSb := Lib.hid (HSa.out.1.trans (hb.mono HSa.out.1.size))
            clear ho1 ho2 hb c0 c1 c2 HSa HOa
            rw [HEa.out]
            go_wp2
            go_ret
            exact ⟨rfl, HSb.out.alloc HSb.out.size _⟩
end Go.Proofs.Ytpchjpmkkiopiaa
