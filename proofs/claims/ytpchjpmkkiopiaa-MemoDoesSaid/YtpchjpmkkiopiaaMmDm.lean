import Derived.Test.YtpchjpmkkiopiaaMmCm
namespace Go.Proofs.Ytpchjpmkkiopiaa
open Go.RowKit Go.Lib

/-- what a round keeps. -/
structure HoS (w wr : World) (p q nm km em : Nat) (room : Int) (k : Nat) (ta : Option Addr) (tn tc : Nat) (next peak : Int) (L : List Rec) : Prop where
  me : MeIs w.heap.size wr p q nm km em next room peak L
  th : wr.ownsRow w.heap.size 31 3 (.slice ta tn tc) tn ((L.map (·.k)).flatMap kyc)
  tl : tn = L.length
  lr : (tn : Int) ≤ room
  lp : (tn : Int) ≤ peak
  pr : peak ≤ room
  nk : next ≤ k
  nx : ∀ r ∈ L, r.x.tree = [] ∧ r.x.tou = []
  bel : Below w.heap.size w wr
theorem HoS.later {w wr w2 : World} {p q nm km em k tn tc : Nat} {room next peak : Int} {ta : Option Addr} {L : List Rec} (h : HoS w wr p q nm km em room k ta tn tc next peak L) (hb : Below wr.heap.size wr w2) : HoS w w2 p q nm km em room k ta tn tc next peak L :=
  { h with me := h.me.later hb, th := row_later h.th hb, bel := h.bel.trans (hb.mono h.bel.size) }
theorem HoS.next {w wr : World} {p q nm km em k tn tc : Nat} {room next peak : Int} {ta : Option Addr} {L : List Rec} (h : HoS w wr p q nm km em room k ta tn tc next peak L) : HoS w wr p q nm km em room (k + 1) ta tn tc next peak L :=
  { h with nk := by have := h.nk; omega }
theorem mem_hask {L : List Rec} {x : Ky} : x ∈ L.map (·.k) ↔ hasK L x = true := by
  unfold hasK
  constructor
  · intro h
    obtain ⟨r, hr, rfl⟩ := List.mem_map.1 h
    cases hf : fndK L r.k with
    | none => exact absurd rfl (fndK_none hf r hr)
    | some a => rfl
  · intro h
    obtain ⟨r, hr⟩ := Option.isSome_iff_exists.1 h
    exact List.mem_map.2 ⟨r, (fndK_some hr).1, (fndK_some hr).2⟩
theorem outK_map (L : List Rec) (x : Ky) : outK (L.map (·.k)) x = (dropK L x).map (·.k) := by
  unfold outK dropK
  rw [List.filter_map]
  congr 1
  apply List.filter_congr
  intro r _
  simp [bne, Function.comp]
  rw [Bool.eq_iff_iff]
  simp
theorem MeIs.typed [Watch] {base : Nat} {p q nm km em : Nat} {next room peak : Int} {L : List Rec} {w w' : World} {S : Nat → Prop} (h : MeIs base w p q nm km em next room peak L) (hk : Keeps S w w') (hS : ∀ k, S k → ∃ cs t fr, w.heap[k]? = some (.cells cs t fr) ∧ t ∉ [110, 136, 112, 80, 122, 3]) : MeIs base w' p q nm km em next room peak L := by
  have hm : ∀ {m : Nat}, (∃ es clock, w.heap[m]? = some (.map es clock)) → ¬ S m := fun ⟨es, ck, h1⟩ h2 => by
    obtain ⟨cs, t, fr, h3, -⟩ := hS _ h2
    rw [h1] at h3; simp at h3
  have ht : ∀ {m : Nat} {cs : Array Value} {t : TypeId} {fr : Nat × Nat}, w.heap[m]? = some (.cells cs t fr) → t ∈ [110, 136, 112, 80, 122, 3] → ¬ S m := fun h1 h4 h2 => by
    obtain ⟨cs, t, fr, h3, h5⟩ := hS _ h2
    rw [h1] at h3
    simp only [Option.some.injEq, Obj.cells.injEq] at h3
    exact h5 (h3.2.1 ▸ h4)
  obtain ⟨hl, he⟩ := h
  obtain ⟨cs, hq⟩ := @Qu.qblk (inw nm km em) _ _ _ _ _ hl.qu
  refine ⟨{ hl with blk := hk.obj hl.blk (ht hl.blk (by simp)), qu := @Qu.keepsW (inw nm km em) _ _ _ _ _ _ _ hl.qu hk (fun k hs => ⟨fun e => ht hq (by simp) (e ▸ hs), .inr ?_⟩), names := hl.names.keeps hk (hm hl.names.blk), keys := hl.keys.keeps hk (hm hl.keys.blk), lim := Nat.le_trans hl.lim hk.size }, ⟨he.map.keeps hk (hm he.map.blk), fun r hr => ⟨row_kept (he.tws r hr).1 hk (fun k cs h1 => ht h1 (by simp)), (he.tws r hr).2⟩, fun r hr => ⟨row_kept (he.ivs r hr).1 hk (fun k cs h1 => ht h1 (by simp)), (he.ivs r hr).2⟩⟩⟩
  obtain ⟨cs, t, fr, h1, h2⟩ := hS k hs
  simp only [List.mem_cons, not_or] at h2
  exact ⟨cs, t, fr, h1, h2.1, h2.2.1⟩
theorem MeIs.grown [Watch] {base : Nat} {p q nm km em : Nat} {next room peak : Int} {L : List Rec} {v w1 : World} {o : Obj} {B n : Nat} {u : Value} {xs : List Value} (h : MeIs base v p q nm km em next room peak L) (hr : v.ownsRow B 31 3 u n xs) (hg : (v.alloc o).grownBy w1 u.ownBlock) : MeIs base w1 p q nm km em next room peak L := by
  refine (h.later ((Below.refl _ v).alloc (Nat.le_refl _) o)).typed (keeps_grown hg) (fun k hs => ?_)
  rcases hr.2 with ⟨rfl, -⟩ | ⟨g, cap, cur, rfl, -, hb, -⟩
  · simp [Value.ownBlock] at hs
  · simp [Value.ownBlock] at hs
    subst hs
    exact ⟨_, _, _, (heap_alloc_old _ _ (lt_of_block hb)).trans hb, by decide⟩
set_option maxRecDepth 100000 in
set_option maxHeartbeats 40000000 in
theorem memoHolds_main (room : Int) (v : Value) (S : List Ky) (w : World) (h : KyAt w v S) (hok : ∀ x ∈ S, kyOk x) (hl : S.length ≤ 1000000000000000) :
    Calls Try.prog 3 #[.int .i64 room, v] w fun e w' => e = .returned (.bool true) ∧ Below w.heap.size w w' := by
  have H := Lib.hid h
  have HOk := Lib.hid hok
  obtain ⟨ao, cap, rfl⟩ := h.val
  obtain ⟨n, hn⟩ : ∃ n, n = S.length := ⟨_, rfl⟩
  have HN := Lib.hid hn
  rw [← hn] at H hl ⊢
  have HKe := Lib.hid ky_eql
  clear h hn hok
  obtain ⟨i0, hi0, hz0, hz1, hz2⟩ := info_parts Try.infoKy
  have HI := Lib.hid (And.intro hi0 (And.intro hz0 (And.intro hz1 hz2)))
  clear hi0 hz0 hz1 hz2
  go_enter Try.func3, Try.ntmps3
  go_wp2_with fail
  refine (awake_any w).mono ?_
  rintro e w1 ⟨rfl, hb⟩
  have HB1 := Lib.hid hb
  clear hb
  by_cases hbig : 200 < n
  · have h1 : (200 : Int) < n := by omega
    go_wp2
    go_ret
    exact ⟨rfl, HB1.out⟩
  have hb2 : decide ((200 : Int) < n) = false := by simpa using (show (n : Int) ≤ 200 by omega)
  by_cases hr0 : room < 0
  · go_wp2
    go_ret
    exact ⟨rfl, HB1.out⟩
  have hr1 : decide (room < 0) = false := by simpa using hr0
  go_wp2_with fail
  refine (mNew_any (base := w.heap.size) room w1 (by omega) HB1.out.size (Nat.zero_le _)).mono ?_
  rintro e w2 ⟨p, q, nm, km, em, rfl, hm, hb⟩
  have H0 := Lib.hid (show HoS w w2 p q nm km em room 0 none 0 0 0 0 [] from ⟨hm, World.ownsRow_nil _ _ _ _, rfl, by show (0 : Int) ≤ room; omega, Int.le_refl _, by omega, Int.le_refl _, by simp, HB1.out.trans (hb.mono HB1.out.size)⟩)
  clear hm hb HB1
  go_wp2
  go_loopw [7, 8] (fun t i wr => ∃ (k : Nat) (ta : Option Addr) (tn tc : Nat) (next peak : Int) (L : List Rec), k ≤ n ∧ i = .int .i64 k ∧ t = .slice ta tn tc ∧ tn ≤ 300 ∧ Hid (HoS w wr p q nm km em room k ta tn tc next peak L)) (fun _ i _ => n - (intOf i).toNat)
  case atStart => exact ⟨0, none, 0, 0, 0, 0, [], Nat.zero_le _, rfl, rfl, by omega, H0⟩
  case round =>
    obtain ⟨k, ta, tn, tc, next, peak, L, hk, rfl, rfl, htn, HH⟩ := hrel
    by_cases hlt : k < n
    · have hlt2 : (k : Int) < n := by omega
      have hkS : k < S.length := by rw [← HN.out]; exact hlt
      obtain ⟨b, off, rfl, hbl, -⟩ := H.out.cells.2.2 k hkS
      have HC := Lib.hid (show ∀ wS, Below w.heap.size w wS → wS.cell? ⟨b, off + k * 3, none⟩ = some (.int .i64 S[k].rule) ∧ wS.cell? ⟨b, off + k * 3 + 1, none⟩ = some (.int .i64 S[k].level) ∧ wS.cell? ⟨b, off + k * 3 + 2, none⟩ = some (.int .i64 S[k].place) from fun wS hw => by
        obtain ⟨b2, off2, e, -, h1⟩ := (H.out.later hw).cells.2.2 k hkS
        simp only [Option.some.injEq, Addr.mk.injEq, and_true] at e
        obtain ⟨rfl, rfl⟩ := e
        exact h1)
      have hxo := HOk.out _ (List.getElem_mem hkS)
      have HXo := Lib.hid hxo
      obtain ⟨x, hx⟩ : ∃ x, x = S[k] := ⟨_, rfl⟩
      rw [← hx] at HC HXo
      have HBr := Lib.hid HH.out.bel
      have hpk : peak ≤ room := HH.out.pr
      have hlr := HH.out.lr
      have HNx := Lib.hid (show next < 100000 from by have := HH.out.nk; omega)
      clear hx hkS hbl hxo
      go_upto_region 12 with (fail)
      refine wp_region_held_drew (S := fun z => Below w.heap.size w z) (by kernel_rfl) HBr.out.drew (fun hS => ?_)
      refine wpAnyH_take (i := 0) (oi := ⟨_, _, _, _, _, _⟩) (v := ?v1) rfl (by kernel_rfl) (by kernel_rfl) (by kernel_rfl) (fun _ _ _ h => h) ?y1 hS ?_
      case y1 => first | (refine Or.inr ⟨by rfl, ?_⟩; with_reducible rfl) | (refine Or.inl ⟨by rfl, ?_⟩; intro wS hSw; obtain ⟨c0, c1, c2⟩ := HC.out wS hSw; go_simp; try with_reducible rfl)
      simp only [Act.put, List.setIfInBounds_toArray, List.set_cons_zero, List.set_cons_succ]
      refine wpAnyH_take (i := 1) (oi := ⟨_, _, _, _, _, _⟩) (v := ?v2) rfl (by kernel_rfl) (by kernel_rfl) (by kernel_rfl) (fun _ _ _ h => h) ?y2 hS ?_
      case y2 => first | (refine Or.inr ⟨by rfl, ?_⟩; with_reducible rfl) | (refine Or.inl ⟨by rfl, ?_⟩; intro wS hSw; obtain ⟨c0, c1, c2⟩ := HC.out wS hSw; go_simp; try with_reducible rfl)
      simp only [Act.put, List.setIfInBounds_toArray, List.set_cons_zero, List.set_cons_succ]
      refine wpAnyH_take (i := 2) (oi := ⟨_, _, _, _, _, _⟩) (v := ?v3) rfl (by kernel_rfl) (by kernel_rfl) (by kernel_rfl) (fun _ _ _ h => h) ?y3 hS ?_
      case y3 => first | (refine Or.inr ⟨by rfl, ?_⟩; with_reducible rfl) | (refine Or.inl ⟨by rfl, ?_⟩; intro wS hSw; obtain ⟨c0, c1, c2⟩ := HC.out wS hSw; go_simp; try with_reducible rfl)
      simp only [Act.put, List.setIfInBounds_toArray, List.set_cons_zero, List.set_cons_succ]
      refine wpAnyH_take (i := 3) (oi := ⟨_, _, _, _, _, _⟩) (v := ?v4) rfl (by kernel_rfl) (by kernel_rfl) (by kernel_rfl) (fun _ _ _ h => h) ?y4 hS ?_
      case y4 => first | (refine Or.inr ⟨by rfl, ?_⟩; with_reducible rfl) | (refine Or.inl ⟨by rfl, ?_⟩; intro wS hSw; obtain ⟨c0, c1, c2⟩ := HC.out wS hSw; go_simp; try with_reducible rfl)
      simp only [Act.put, List.setIfInBounds_toArray, List.set_cons_zero, List.set_cons_succ]
      refine wpAnyH_take (i := 4) (oi := ⟨_, _, _, _, _, _⟩) (v := ?v5) rfl (by kernel_rfl) (by kernel_rfl) (by kernel_rfl) (fun _ _ _ h => h) ?y5 hS ?_
      case y5 => first | (refine Or.inr ⟨by rfl, ?_⟩; with_reducible rfl) | (refine Or.inl ⟨by rfl, ?_⟩; intro wS hSw; obtain ⟨c0, c1, c2⟩ := HC.out wS hSw; go_simp; try with_reducible rfl)
      simp only [Act.put, List.setIfInBounds_toArray, List.set_cons_zero, List.set_cons_succ]
      refine wpAnyH_take (i := 5) (oi := ⟨_, _, _, _, _, _⟩) (v := ?v6) rfl (by kernel_rfl) (by kernel_rfl) (by kernel_rfl) (fun _ _ _ h => h) ?y6 hS ?_
      case y6 => first | (refine Or.inr ⟨by rfl, ?_⟩; with_reducible rfl) | (refine Or.inl ⟨by rfl, ?_⟩; intro wS hSw; obtain ⟨c0, c1, c2⟩ := HC.out wS hSw; go_simp; try with_reducible rfl)
      simp only [Act.put, List.setIfInBounds_toArray, List.set_cons_zero, List.set_cons_succ]
      refine wpAnyH_ready (rs := [6]) (by kernel_rfl) (by simp) ?_
      refine AllReadyH.cons (o := ⟨_, _, _, _, _, _⟩) rfl (fun K hK => ?_) AllReadyH.nil
      go_simp
      refine (some_any k _).mono ?_
      rintro e w3 ⟨rfl, hb3⟩
      go_wp2_with fail
      have hS3 := hS.trans (hb3.mono hS.size)
      refine hK.out _ _ hS3 (fun hSd => ?_)
      clear hSd hK K
      try simp only [Act.put, List.setIfInBounds_toArray, List.set_cons_zero, List.set_cons_succ]
      have HH3 := Lib.hid (HH.out.later ((Below.refl wr.heap.size wr).drew.trans hb3))
      clear hb3 hS HH HBr
      refine wpAnyH_ready (rs := [7]) (by kernel_rfl) (by simp) ?_
      refine AllReadyH.cons (o := ⟨_, _, _, _, _, _⟩) rfl (fun K hK => ?_) AllReadyH.nil
      go_simp
      by_cases hz : room = 0
      · have hL : L = [] := List.eq_nil_of_length_eq_zero (by have := HH3.out.tl; omega)
        have hz2 : (room == 0) = true := by simpa using hz
        have HZ := Lib.hid hz
        clear hz
        refine (mPut0_any (k := x) (someX k) w3 HH3.out.me HXo.out (nil_tw w3) (nil_iv w3) (by simp [someX]) (by simp [someX]) HZ.out).mono ?_
        rintro e w4 ⟨rfl, hb⟩
        go_wp2_with fail
        have hS4 := hS3.trans (hb.mono hS3.size)
        have HH4 := Lib.hid (HH3.out.later hb)
        clear hb
        refine hK.out _ _ hS4 (fun hSd => ?_)
        clear hSd hK K
        try simp only [Act.put, List.setIfInBounds_toArray, List.set_cons_zero, List.set_cons_succ]
        refine wpAnyH_take (i := 8) (oi := ⟨_, _, _, _, _, _⟩) (v := ?v7) rfl (by kernel_rfl) (by kernel_rfl) (by kernel_rfl) (fun _ _ _ h => h) ?y7 hS4 ?_
        case y7 => first | (refine Or.inr ⟨by rfl, ?_⟩; with_reducible rfl) | (refine Or.inl ⟨by rfl, ?_⟩; intro wS hSw; go_simp; try with_reducible rfl)
        simp only [Act.put, List.setIfInBounds_toArray, List.set_cons_zero, List.set_cons_succ]
        refine wpAnyH_take (i := 9) (oi := ⟨_, _, _, _, _, _⟩) (v := ?v8) rfl (by kernel_rfl) (by kernel_rfl) (by kernel_rfl) (fun _ _ _ h => h) ?y8 hS4 ?_
        case y8 => first | (refine Or.inr ⟨by rfl, ?_⟩; with_reducible rfl) | (refine Or.inl ⟨by rfl, ?_⟩; intro wS hSw; go_simp; try with_reducible rfl)
        simp only [Act.put, List.setIfInBounds_toArray, List.set_cons_zero, List.set_cons_succ]
        refine wpAnyH_take (i := 10) (oi := ⟨_, _, _, _, _, _⟩) (v := ?v9) rfl (by kernel_rfl) (by kernel_rfl) (by kernel_rfl) (fun _ _ _ h => h) ?y9 hS4 ?_
        case y9 => first | (refine Or.inr ⟨by rfl, ?_⟩; with_reducible rfl) | (refine Or.inl ⟨by rfl, ?_⟩; intro wS hSw; go_simp; try with_reducible rfl)
        simp only [Act.put, List.setIfInBounds_toArray, List.set_cons_zero, List.set_cons_succ]
        refine wpAnyH_take (i := 11) (oi := ⟨_, _, _, _, _, _⟩) (v := ?v10) rfl (by kernel_rfl) (by kernel_rfl) (by kernel_rfl) (fun _ _ _ h => h) ?y10 hS4 ?_
        case y10 => first | (refine Or.inr ⟨by rfl, ?_⟩; with_reducible rfl) | (refine Or.inl ⟨by rfl, ?_⟩; intro wS hSw; go_simp; try with_reducible rfl)
        simp only [Act.put, List.setIfInBounds_toArray, List.set_cons_zero, List.set_cons_succ]
        refine wpAnyH_take (i := 12) (oi := ⟨_, _, _, _, _, _⟩) (v := ?v11) rfl (by kernel_rfl) (by kernel_rfl) (by kernel_rfl) (fun _ _ _ h => h) ?y11 hS4 ?_
        case y11 => first | (refine Or.inr ⟨by rfl, ?_⟩; with_reducible rfl) | (refine Or.inl ⟨by rfl, ?_⟩; intro wS hSw; go_simp; try with_reducible rfl)
        simp only [Act.put, List.setIfInBounds_toArray, List.set_cons_zero, List.set_cons_succ]
        refine wpAnyH_done (by kernel_rfl) ?_ _
        clear hS3 hS4
        have hl0 := mLen_any w4 HH4.out.me
        rw [hL] at hl0
        have HL0 := Lib.hid hl0
        clear hl0 hL
        go_wp2_with fail
        refine HL0.out.mono ?_
        rintro e w5 ⟨rfl, rfl⟩
        go_wp2
        go_roundw
        case rel => exact ⟨k + 1, ta, tn, tc, next, peak, L, by omega, by go_num, rfl, htn, Lib.hid HH4.out.next⟩
        case measure => simp [intOf]; omega
      have hz2 : (room == 0) = false := by simpa using hz
      have HZ := Lib.hid hz
      clear hz
      by_cases hin : x ∈ L.map (·.k)
      · have HIn := Lib.hid hin
        clear hin
        refine (mPutO_any (k := x) (someX k) w3 HH3.out.me HXo.out (nil_tw w3) (nil_iv w3) (by simp [someX]) (by simp [someX]) HZ.out (mem_hask.1 HIn.out)).mono ?_
        rintro e w4 ⟨rfl, tv, kv, hm, hk⟩
        obtain ⟨xe, hxe⟩ : ∃ e : Ent, e = ⟨(someX k).is, (someX k).en, (someX k).far, (someX k).tree, (someX k).tou, tv, kv⟩ := ⟨_, rfl⟩
        rw [← hxe] at hm
        have HXe := Lib.hid (show xe.is = true ∧ xe.en = k ∧ xe.far = 0 ∧ xe.tree = [] ∧ xe.tou = [] from by rw [hxe]; exact ⟨rfl, rfl, rfl, rfl, rfl⟩)
        go_wp2_with fail
        have hS4 := hS3.trans ((hk.below hS3.size).mono (Nat.le_refl _))
        have HM4 := Lib.hid hm
        have HTh := Lib.hid (hk.row HH3.out.th (by decide))
        have HTl := Lib.hid HH3.out.tl
        have HB4 := Lib.hid hS4
        clear hm hk hxe
        refine hK.out _ _ hS4 (fun hSd => ?_)
        clear hSd hK K
        try simp only [Act.put, List.setIfInBounds_toArray, List.set_cons_zero, List.set_cons_succ]
        refine wpAnyH_take (i := 8) (oi := ⟨_, _, _, _, _, _⟩) (v := ?v12) rfl (by kernel_rfl) (by kernel_rfl) (by kernel_rfl) (fun _ _ _ h => h) ?y12 hS4 ?_
        case y12 => first | (refine Or.inr ⟨by rfl, ?_⟩; with_reducible rfl) | (refine Or.inl ⟨by rfl, ?_⟩; intro wS hSw; go_simp; try with_reducible rfl)
        simp only [Act.put, List.setIfInBounds_toArray, List.set_cons_zero, List.set_cons_succ]
        refine wpAnyH_take (i := 9) (oi := ⟨_, _, _, _, _, _⟩) (v := ?v13) rfl (by kernel_rfl) (by kernel_rfl) (by kernel_rfl) (fun _ _ _ h => h) ?y13 hS4 ?_
        case y13 => first | (refine Or.inr ⟨by rfl, ?_⟩; with_reducible rfl) | (refine Or.inl ⟨by rfl, ?_⟩; intro wS hSw; go_simp; try with_reducible rfl)
        simp only [Act.put, List.setIfInBounds_toArray, List.set_cons_zero, List.set_cons_succ]
        refine wpAnyH_take (i := 10) (oi := ⟨_, _, _, _, _, _⟩) (v := ?v14) rfl (by kernel_rfl) (by kernel_rfl) (by kernel_rfl) (fun _ _ _ h => h) ?y14 hS4 ?_
        case y14 => first | (refine Or.inr ⟨by rfl, ?_⟩; with_reducible rfl) | (refine Or.inl ⟨by rfl, ?_⟩; intro wS hSw; go_simp; try with_reducible rfl)
        simp only [Act.put, List.setIfInBounds_toArray, List.set_cons_zero, List.set_cons_succ]
        refine wpAnyH_take (i := 11) (oi := ⟨_, _, _, _, _, _⟩) (v := ?v15) rfl (by kernel_rfl) (by kernel_rfl) (by kernel_rfl) (fun _ _ _ h => h) ?y15 hS4 ?_
        case y15 => first | (refine Or.inr ⟨by rfl, ?_⟩; with_reducible rfl) | (refine Or.inl ⟨by rfl, ?_⟩; intro wS hSw; go_simp; try with_reducible rfl)
        simp only [Act.put, List.setIfInBounds_toArray, List.set_cons_zero, List.set_cons_succ]
        refine wpAnyH_take (i := 12) (oi := ⟨_, _, _, _, _, _⟩) (v := ?v16) rfl (by kernel_rfl) (by kernel_rfl) (by kernel_rfl) (fun _ _ _ h => h) ?y16 hS4 ?_
        case y16 => first | (refine Or.inr ⟨by rfl, ?_⟩; with_reducible rfl) | (refine Or.inl ⟨by rfl, ?_⟩; intro wS hSw; go_simp; try with_reducible rfl)
        simp only [Act.put, List.setIfInBounds_toArray, List.set_cons_zero, List.set_cons_succ]
        refine wpAnyH_done (by kernel_rfl) ?_ _
        clear hS3 hS4
        have hh := has_any _ _ x w4 (KyOwn.at (by have := HTh.out; unfold KyOwn; rw [List.length_map, ← HTl.out]; exact this)) (by rw [List.length_map, ← HTl.out]; omega)
        rw [show decide (x ∈ L.map (·.k)) = true from by simpa using HIn.out] at hh
        have HHs := Lib.hid hh
        obtain ⟨c0, c1, c2⟩ := HC.out w4 HB4.out
        clear hh
        go_wp2_with fail
        refine HHs.out.mono ?_
        rintro e w5 ⟨rfl, hb⟩
        have HB5 := Lib.hid (HB4.out.trans (hb.mono HB4.out.size))
        have HM5 := Lib.hid (HM4.out.later hb)
        have HTh5 := Lib.hid (row_later HTh.out hb)
        have HB45 := Lib.hid hb
        clear hb c0 c1 c2 HHs
        have HTl2 := Lib.hid (show tn = (setK L x xe).length from by rw [setK_len]; exact HTl.out)
        have HTv := Lib.hid (show w5.ownsRow w.heap.size 31 3 (.slice ta tn tc) tn (((setK L x xe).map (·.k)).flatMap kyc) from by rw [setK_k]; exact HTh5.out)
        have HGt := Lib.hid (show ∃ rr, fndK (setK L x xe) x = some rr ∧ rr.x.is = true ∧ rr.x.en = k ∧ rr.x.far = 0 ∧ rr.x.tree = [] ∧ rr.x.tou = [] from by
          obtain ⟨rr, hrr⟩ := Option.isSome_iff_exists.1 (show (fndK L x).isSome = true from mem_hask.1 HIn.out)
          obtain ⟨-, hk2⟩ := fndK_some hrr
          exact ⟨putX xe rr, by rw [fndK_set, hrr, Option.map_some, if_pos hk2], HXe.out⟩)
        have HNx2 := Lib.hid (show ∀ r ∈ setK L x xe, r.x.tree = [] ∧ r.x.tou = [] from fun r hr => by
          obtain ⟨a, ha, -, -, h1 | h1⟩ := mem_setK hr
          · rw [h1]; exact HH3.out.nx a ha
          · rw [h1]; exact HXe.out.2.2.2)
        have hq0 := HTl.out
        have hq9 := HH3.out.lp
        have hq1 : (tn : Int) ≤ room := hlr
        have hq2 : (tn : Int) ≤ max peak L.length := by omega
        have hq3 : max peak (L.length : Int) ≤ room := by omega
        have htn2 : tn ≤ 300 := htn
        obtain ⟨pk2, hpk2⟩ : ∃ pk, pk = max peak (L.length : Int) := ⟨_, rfl⟩
        rw [← hpk2] at hq2 hq3
        have HMv := Lib.hid (show MeIs w.heap.size w5 p q nm km em next room pk2 (setK L x xe) from by rw [hpk2]; exact HM5.out)
        clear hq0 hq9 hpk2 HM4 HTh HM5 HTh5 hlr hpk
        have HBv := HB5
        clear HB5
        generalize w5 = v at *
        obtain ⟨rr, hg1, hg2, hg3, hg4, hg5, hg6⟩ := HGt.out
        obtain ⟨c0, c1, c2⟩ := HC.out v HBv.out
        have HGe := Lib.hid (mGet_any (k := x) (r := rr) v HMv.out hg1 (by rw [hg5]; simp) (by rw [hg6]; simp))
        have HG2 := Lib.hid (And.intro hg2 (And.intro hg3 (And.intro hg4 (And.intro hg5 hg6))))
        clear hg1 hg2 hg3 hg4 hg5 hg6
        go_wp2_with fail
        refine HGe.out.mono ?_
        rintro e v2 ⟨tv, kv, rfl, ho1, ho2, hb⟩
        rw [HG2.out.2.2.2.1] at ho1
        rw [HG2.out.2.2.2.2] at ho2
        rw [HG2.out.1, HG2.out.2.1, HG2.out.2.2.1, HG2.out.2.2.2.1, HG2.out.2.2.2.2]
        obtain ⟨xa, xc, rfl⟩ := own_val ho1
        obtain ⟨ya, yc, rfl⟩ := own_val ho2
        have HMv2 := Lib.hid (HMv.out.later hb)
        have HTv2 := Lib.hid (row_later HTv.out hb)
        have HBv2 := Lib.hid (HBv.out.trans (hb.mono HBv.out.size))
        clear hb ho1 ho2 c0 c1 c2 HGe HMv HTv HBv
        go_upto_region 29 with (fail)
        refine gen_world (S := fun z => Below v2.heap.size v2 z ∧ z.heap[v2.heap.size]? = some (.cells #[.bool true, .int .i64 k, .int .i64 0, .slice xa 0 xc, .slice ya 0 yc] 37 (0, 0))) (one_new v2 _) (fun z hz => ?_)
        obtain ⟨hbz, hxz⟩ := hz
        have HMz := Lib.hid (HMv2.out.later hbz)
        have HTz := Lib.hid (row_later HTv2.out hbz)
        have HBz := Lib.hid (HBv2.out.trans (hbz.mono HBv2.out.size))
        obtain ⟨⟨x0, x1, x2, x3, x4⟩, -⟩ := five_box hxz
        clear hbz hxz HMv2 HTv2 HBv2
        have hlen := mLen_any z HMz.out
        rw [← HTl2.out] at hlen
        have HLen := Lib.hid hlen
        have HPk := Lib.hid (mPeak_any z HMz.out)
        clear hlen
        go_wp2_with fail
        refine HLen.out.mono ?_
        rintro e z1 ⟨rfl, rfl⟩
        go_wp2_with fail
        refine HLen.out.mono ?_
        rintro e z1 ⟨rfl, rfl⟩
        go_wp2_with fail
        refine HPk.out.mono ?_
        rintro e z1 ⟨rfl, rfl⟩
        go_wp2_with fail
        refine HLen.out.mono ?_
        rintro e z1 ⟨rfl, rfl⟩
        go_wp2_with fail
        refine HPk.out.mono ?_
        rintro e z1 ⟨rfl, rfl⟩
        go_wp2
        go_roundw
        case rel => exact ⟨k + 1, _, _, _, next, pk2, setK L x xe, by omega, by go_num, rfl, by omega, Lib.hid ⟨HMz.out, HTz.out, HTl2.out, hq1, hq2, hq3, by have := HH3.out.nk; omega, HNx2.out, HBz.out⟩⟩
        case measure => simp [intOf]; omega
      · have HIn := Lib.hid hin
        clear hin
        have HNo := Lib.hid (show fndK L x = none from by cases hf : fndK L x with | none => rfl | some a => exact absurd (mem_hask.2 (by unfold hasK; rw [hf]; rfl)) HIn.out)
        by_cases hfu : (L.length : Int) = room
        · have hfu2 : ((tn : Int) == room) = true := by rw [HH3.out.tl]; simpa using hfu
          have HFu := Lib.hid hfu
          clear hfu
          refine (mPutF_any (k := x) (someX k) w3 HH3.out.me HXo.out (nil_tw w3) (nil_iv w3) (by simp [someX]) (by simp [someX]) HZ.out HNo.out HNx.out HFu.out).mono ?_
          rintro e w4 ⟨r, g, gc, hfr, rfl, hg, tv, kv, hm, hk⟩
          obtain ⟨xe, hxe⟩ : ∃ e : Ent, e = ⟨(someX k).is, (someX k).en, (someX k).far, (someX k).tree, (someX k).tou, tv, kv⟩ := ⟨_, rfl⟩
          rw [← hxe] at hm
          have HXe := Lib.hid (show xe.is = true ∧ xe.en = k ∧ xe.far = 0 ∧ xe.tree = [] ∧ xe.tou = [] from by rw [hxe]; exact ⟨rfl, rfl, rfl, rfl, rfl⟩)
          go_wp2_with fail
          have hS4 := hS3.trans (hk.below hS3.size)
          have HM4 := Lib.hid hm
          have HTh := Lib.hid (hk.row HH3.out.th (by decide))
          have HTl := Lib.hid HH3.out.tl
          have HB4 := Lib.hid hS4
          have HFr := Lib.hid hfr
          have HG := Lib.hid (ownsRow_base hg hS3.size)
          clear hm hk hxe hfr hg
          refine hK.out _ _ hS4 (fun hSd => ?_)
          clear hSd hK K
          try simp only [Act.put, List.setIfInBounds_toArray, List.set_cons_zero, List.set_cons_succ]
          refine wpAnyH_take (i := 8) (oi := ⟨_, _, _, _, _, _⟩) (v := ?v17) rfl (by kernel_rfl) (by kernel_rfl) (by kernel_rfl) (fun _ _ _ h => h) ?y17 hS4 ?_
          case y17 => first | (refine Or.inr ⟨by rfl, ?_⟩; with_reducible rfl) | (refine Or.inl ⟨by rfl, ?_⟩; intro wS hSw; go_simp; try with_reducible rfl)
          simp only [Act.put, List.setIfInBounds_toArray, List.set_cons_zero, List.set_cons_succ]
          refine wpAnyH_take (i := 9) (oi := ⟨_, _, _, _, _, _⟩) (v := ?v18) rfl (by kernel_rfl) (by kernel_rfl) (by kernel_rfl) (fun _ _ _ h => h) ?y18 hS4 ?_
          case y18 => first | (refine Or.inr ⟨by rfl, ?_⟩; with_reducible rfl) | (refine Or.inl ⟨by rfl, ?_⟩; intro wS hSw; go_simp; try with_reducible rfl)
          simp only [Act.put, List.setIfInBounds_toArray, List.set_cons_zero, List.set_cons_succ]
          refine wpAnyH_take (i := 10) (oi := ⟨_, _, _, _, _, _⟩) (v := ?v19) rfl (by kernel_rfl) (by kernel_rfl) (by kernel_rfl) (fun _ _ _ h => h) ?y19 hS4 ?_
          case y19 => first | (refine Or.inr ⟨by rfl, ?_⟩; with_reducible rfl) | (refine Or.inl ⟨by rfl, ?_⟩; intro wS hSw; go_simp; try with_reducible rfl)
          simp only [Act.put, List.setIfInBounds_toArray, List.set_cons_zero, List.set_cons_succ]
          refine wpAnyH_take (i := 11) (oi := ⟨_, _, _, _, _, _⟩) (v := ?v20) rfl (by kernel_rfl) (by kernel_rfl) (by kernel_rfl) (fun _ _ _ h => h) ?y20 hS4 ?_
          case y20 => first | (refine Or.inr ⟨by rfl, ?_⟩; with_reducible rfl) | (refine Or.inl ⟨by rfl, ?_⟩; intro wS hSw; go_simp; try with_reducible rfl)
          simp only [Act.put, List.setIfInBounds_toArray, List.set_cons_zero, List.set_cons_succ]
          refine wpAnyH_take (i := 12) (oi := ⟨_, _, _, _, _, _⟩) (v := ?v21) rfl (by kernel_rfl) (by kernel_rfl) (by kernel_rfl) (fun _ _ _ h => h) ?y21 hS4 ?_
          case y21 => first | (refine Or.inr ⟨by rfl, ?_⟩; with_reducible rfl) | (refine Or.inl ⟨by rfl, ?_⟩; intro wS hSw; go_simp; try with_reducible rfl)
          simp only [Act.put, List.setIfInBounds_toArray, List.set_cons_zero, List.set_cons_succ]
          refine wpAnyH_done (by kernel_rfl) ?_ _
          clear hS3 hS4
          have hh := has_any _ _ x w4 (KyOwn.at (by have := HTh.out; unfold KyOwn; rw [List.length_map, ← HTl.out]; exact this)) (by rw [List.length_map, ← HTl.out]; omega)
          rw [show decide (x ∈ L.map (·.k)) = false from by simpa using HIn.out] at hh
          have HHs := Lib.hid hh
          obtain ⟨c0, c1, c2⟩ := HC.out w4 HB4.out
          clear hh
          go_wp2_with fail
          refine HHs.out.mono ?_
          rintro e w5 ⟨rfl, hb⟩
          have HB5 := Lib.hid (HB4.out.trans (hb.mono HB4.out.size))
          have HM5 := Lib.hid (HM4.out.later hb)
          have HTh5 := Lib.hid (row_later HTh.out hb)
          have HB45 := Lib.hid hb
          clear hb c0 c1 c2 HHs
          replace HG := Lib.hid (row_later HG.out (show Below w4.heap.size w4 w5 from HB45.out))
          have HRk := Lib.hid (show fndK L r.k = some r from fndK_is HH3.out.me.ln.ord.once HFr.out.1)
          obtain ⟨ky, hky⟩ : ∃ ky, ky = r.k := ⟨_, rfl⟩
          have HKy := Lib.hid hky
          rw [← hky] at HG HM5 HRk
          have HKne := Lib.hid (show ky ≠ x from fun e => by have h1 := HRk.out; rw [e, HNo.out] at h1; simp at h1)
          have HLk := Lib.hid (show ky ∈ L.map (·.k) from mem_hask.2 (by unfold hasK; rw [HRk.out]; rfl))
          have HDl := Lib.hid (show (dropK L ky).length + 1 = L.length from dropK_len HH3.out.me.ln.ord.once (by unfold hasK; rw [HRk.out]; rfl))
          clear hky HM4 HB4 HTh
          have hkn := HKe.out ky x
          rw [show decide (ky = x) = false from by simpa using HKne.out] at hkn
          have HKn := Lib.hid hkn
          clear hkn
          obtain ⟨g0, g1, g2⟩ := key_row (S := [ky]) HG.out 0 (by simp) rfl
          simp only [List.getElem_cons_zero, Nat.zero_mul, Nat.zero_add] at g0 g1 g2
          have HGc := Lib.hid (show ∀ wS, Below w5.heap.size w5 wS → wS.cell? ⟨g, 0, none⟩ = some (.int .i64 ky.rule) ∧ wS.cell? ⟨g, 1, none⟩ = some (.int .i64 ky.level) ∧ wS.cell? ⟨g, 2, none⟩ = some (.int .i64 ky.place) from fun wS hw => ⟨cell_later hw g0, cell_later hw g1, cell_later hw g2⟩)
          clear g0 g1 g2
          go_upto_region 20 with (fail)
          refine wp_region_held_drew (S := fun z => Below w5.heap.size w5 z) (by kernel_rfl) (Below.refl w5.heap.size w5).drew (fun hS => ?_)
          refine wpAnyH_take (i := 0) (oi := ⟨_, _, _, _, _, _⟩) (v := ?v22) rfl (by kernel_rfl) (by kernel_rfl) (by kernel_rfl) (fun _ _ _ h => h) ?y22 hS ?_
          case y22 => first | (refine Or.inr ⟨by rfl, ?_⟩; with_reducible rfl) | (refine Or.inl ⟨by rfl, ?_⟩; intro wS hSw; obtain ⟨g0, g1, g2⟩ := HGc.out wS hSw; obtain ⟨c0, c1, c2⟩ := HC.out wS (HB5.out.trans (hSw.mono HB5.out.size)); go_simp; try with_reducible rfl)
          simp only [Act.put, List.setIfInBounds_toArray, List.set_cons_zero, List.set_cons_succ]
          refine wpAnyH_take (i := 1) (oi := ⟨_, _, _, _, _, _⟩) (v := ?v23) rfl (by kernel_rfl) (by kernel_rfl) (by kernel_rfl) (fun _ _ _ h => h) ?y23 hS ?_
          case y23 => first | (refine Or.inr ⟨by rfl, ?_⟩; with_reducible rfl) | (refine Or.inl ⟨by rfl, ?_⟩; intro wS hSw; obtain ⟨g0, g1, g2⟩ := HGc.out wS hSw; obtain ⟨c0, c1, c2⟩ := HC.out wS (HB5.out.trans (hSw.mono HB5.out.size)); go_simp; try with_reducible rfl)
          simp only [Act.put, List.setIfInBounds_toArray, List.set_cons_zero, List.set_cons_succ]
          refine wpAnyH_take (i := 2) (oi := ⟨_, _, _, _, _, _⟩) (v := ?v24) rfl (by kernel_rfl) (by kernel_rfl) (by kernel_rfl) (fun _ _ _ h => h) ?y24 hS ?_
          case y24 => first | (refine Or.inr ⟨by rfl, ?_⟩; with_reducible rfl) | (refine Or.inl ⟨by rfl, ?_⟩; intro wS hSw; obtain ⟨g0, g1, g2⟩ := HGc.out wS hSw; obtain ⟨c0, c1, c2⟩ := HC.out wS (HB5.out.trans (hSw.mono HB5.out.size)); go_simp; try with_reducible rfl)
          simp only [Act.put, List.setIfInBounds_toArray, List.set_cons_zero, List.set_cons_succ]
          refine wpAnyH_take (i := 3) (oi := ⟨_, _, _, _, _, _⟩) (v := ?v25) rfl (by kernel_rfl) (by kernel_rfl) (by kernel_rfl) (fun _ _ _ h => h) ?y25 hS ?_
          case y25 => first | (refine Or.inr ⟨by rfl, ?_⟩; with_reducible rfl) | (refine Or.inl ⟨by rfl, ?_⟩; intro wS hSw; obtain ⟨g0, g1, g2⟩ := HGc.out wS hSw; obtain ⟨c0, c1, c2⟩ := HC.out wS (HB5.out.trans (hSw.mono HB5.out.size)); go_simp; try with_reducible rfl)
          simp only [Act.put, List.setIfInBounds_toArray, List.set_cons_zero, List.set_cons_succ]
          refine wpAnyH_ready (rs := [4]) (by kernel_rfl) (by simp) ?_
          refine AllReadyH.cons (o := ⟨_, _, _, _, _, _⟩) rfl (fun K hK => ?_) AllReadyH.nil
          have hh := has_any _ _ ky w5.drew (KyOwn.at (by have := HTh5.out; unfold KyOwn; rw [List.length_map, ← HTl.out]; exact this)) (by rw [List.length_map, ← HTl.out]; omega)
          rw [show decide (ky ∈ L.map (·.k)) = true from by simpa using HLk.out] at hh
          go_simp
          refine hh.mono ?_
          rintro e w6 ⟨rfl, hb⟩
          go_wp2_with fail
          have hS6 := hS.trans (hb.mono hS.size)
          refine hK.out _ _ hS6 (fun hSd => ?_)
          clear hSd hK K hh
          try simp only [Act.put, List.setIfInBounds_toArray, List.set_cons_zero, List.set_cons_succ]
          refine wpAnyH_take (i := 5) (oi := ⟨_, _, _, _, _, _⟩) (v := ?v26) rfl (by kernel_rfl) (by kernel_rfl) (by kernel_rfl) (fun _ _ _ h => h) ?y26 hS6 ?_
          case y26 => first | (refine Or.inr ⟨by rfl, ?_⟩; with_reducible rfl) | (refine Or.inl ⟨by rfl, ?_⟩; intro wS hSw; obtain ⟨g0, g1, g2⟩ := HGc.out wS hSw; obtain ⟨c0, c1, c2⟩ := HC.out wS (HB5.out.trans (hSw.mono HB5.out.size)); go_simp; try with_reducible rfl)
          simp only [Act.put, List.setIfInBounds_toArray, List.set_cons_zero, List.set_cons_succ]
          refine wpAnyH_take (i := 6) (oi := ⟨_, _, _, _, _, _⟩) (v := ?v27) rfl (by kernel_rfl) (by kernel_rfl) (by kernel_rfl) (fun _ _ _ h => h) ?y27 hS6 ?_
          case y27 => first | (refine Or.inr ⟨by rfl, ?_⟩; with_reducible rfl) | (refine Or.inl ⟨by rfl, ?_⟩; intro wS hSw; obtain ⟨g0, g1, g2⟩ := HGc.out wS hSw; obtain ⟨c0, c1, c2⟩ := HC.out wS (HB5.out.trans (hSw.mono HB5.out.size)); go_simp; try with_reducible rfl)
          simp only [Act.put, List.setIfInBounds_toArray, List.set_cons_zero, List.set_cons_succ]
          refine wpAnyH_take (i := 7) (oi := ⟨_, _, _, _, _, _⟩) (v := ?v28) rfl (by kernel_rfl) (by kernel_rfl) (by kernel_rfl) (fun _ _ _ h => h) ?y28 hS6 ?_
          case y28 => first | (refine Or.inr ⟨by rfl, ?_⟩; with_reducible rfl) | (refine Or.inl ⟨by rfl, ?_⟩; intro wS hSw; obtain ⟨g0, g1, g2⟩ := HGc.out wS hSw; obtain ⟨c0, c1, c2⟩ := HC.out wS (HB5.out.trans (hSw.mono HB5.out.size)); go_simp; try with_reducible rfl)
          simp only [Act.put, List.setIfInBounds_toArray, List.set_cons_zero, List.set_cons_succ]
          refine wpAnyH_take (i := 8) (oi := ⟨_, _, _, _, _, _⟩) (v := ?v29) rfl (by kernel_rfl) (by kernel_rfl) (by kernel_rfl) (fun _ _ _ h => h) ?y29 hS6 ?_
          case y29 => first | (refine Or.inr ⟨by rfl, ?_⟩; with_reducible rfl) | (refine Or.inl ⟨by rfl, ?_⟩; intro wS hSw; obtain ⟨g0, g1, g2⟩ := HGc.out wS hSw; obtain ⟨c0, c1, c2⟩ := HC.out wS (HB5.out.trans (hSw.mono HB5.out.size)); go_simp; try with_reducible rfl)
          simp only [Act.put, List.setIfInBounds_toArray, List.set_cons_zero, List.set_cons_succ]
          refine wpAnyH_take (i := 9) (oi := ⟨_, _, _, _, _, _⟩) (v := ?v30) rfl (by kernel_rfl) (by kernel_rfl) (by kernel_rfl) (fun _ _ _ h => h) ?y30 hS6 ?_
          case y30 => first | (refine Or.inr ⟨by rfl, ?_⟩; with_reducible rfl) | (refine Or.inl ⟨by rfl, ?_⟩; intro wS hSw; obtain ⟨g0, g1, g2⟩ := HGc.out wS hSw; obtain ⟨c0, c1, c2⟩ := HC.out wS (HB5.out.trans (hSw.mono HB5.out.size)); go_simp; try with_reducible rfl)
          simp only [Act.put, List.setIfInBounds_toArray, List.set_cons_zero, List.set_cons_succ]
          refine wpAnyH_take (i := 10) (oi := ⟨_, _, _, _, _, _⟩) (v := ?v31) rfl (by kernel_rfl) (by kernel_rfl) (by kernel_rfl) (fun _ _ _ h => h) ?y31 hS6 ?_
          case y31 => first | (refine Or.inr ⟨by rfl, ?_⟩; with_reducible rfl) | (refine Or.inl ⟨by rfl, ?_⟩; intro wS hSw; obtain ⟨g0, g1, g2⟩ := HGc.out wS hSw; obtain ⟨c0, c1, c2⟩ := HC.out wS (HB5.out.trans (hSw.mono HB5.out.size)); go_simp; try with_reducible rfl)
          simp only [Act.put, List.setIfInBounds_toArray, List.set_cons_zero, List.set_cons_succ]
          refine wpAnyH_take (i := 11) (oi := ⟨_, _, _, _, _, _⟩) (v := ?v32) rfl (by kernel_rfl) (by kernel_rfl) (by kernel_rfl) (fun _ _ _ h => h) ?y32 hS6 ?_
          case y32 => first | (refine Or.inr ⟨by rfl, ?_⟩; with_reducible rfl) | (refine Or.inl ⟨by rfl, ?_⟩; intro wS hSw; obtain ⟨g0, g1, g2⟩ := HGc.out wS hSw; obtain ⟨c0, c1, c2⟩ := HC.out wS (HB5.out.trans (hSw.mono HB5.out.size)); go_simp; try with_reducible rfl)
          simp only [Act.put, List.setIfInBounds_toArray, List.set_cons_zero, List.set_cons_succ]
          refine wpAnyH_take (i := 12) (oi := ⟨_, _, _, _, _, _⟩) (v := ?v33) rfl (by kernel_rfl) (by kernel_rfl) (by kernel_rfl) (fun _ _ _ h => h) ?y33 hS6 ?_
          case y33 => first | (refine Or.inr ⟨by rfl, ?_⟩; with_reducible rfl) | (refine Or.inl ⟨by rfl, ?_⟩; intro wS hSw; obtain ⟨g0, g1, g2⟩ := HGc.out wS hSw; obtain ⟨c0, c1, c2⟩ := HC.out wS (HB5.out.trans (hSw.mono HB5.out.size)); go_simp; try with_reducible rfl)
          simp only [Act.put, List.setIfInBounds_toArray, List.set_cons_zero, List.set_cons_succ]
          refine wpAnyH_take (i := 13) (oi := ⟨_, _, _, _, _, _⟩) (v := ?v34) rfl (by kernel_rfl) (by kernel_rfl) (by kernel_rfl) (fun _ _ _ h => h) ?y34 hS6 ?_
          case y34 => first | (refine Or.inr ⟨by rfl, ?_⟩; with_reducible rfl) | (refine Or.inl ⟨by rfl, ?_⟩; intro wS hSw; obtain ⟨g0, g1, g2⟩ := HGc.out wS hSw; obtain ⟨c0, c1, c2⟩ := HC.out wS (HB5.out.trans (hSw.mono HB5.out.size)); go_simp; try with_reducible rfl)
          simp only [Act.put, List.setIfInBounds_toArray, List.set_cons_zero, List.set_cons_succ]
          refine wpAnyH_take (i := 14) (oi := ⟨_, _, _, _, _, _⟩) (v := ?v35) rfl (by kernel_rfl) (by kernel_rfl) (by kernel_rfl) (fun _ _ _ h => h) ?y35 hS6 ?_
          case y35 => first | (refine Or.inr ⟨by rfl, ?_⟩; with_reducible rfl) | (refine Or.inl ⟨by rfl, ?_⟩; intro wS hSw; have hke := HKn.out; go_simp; try with_reducible rfl)
          simp only [Act.put, List.setIfInBounds_toArray, List.set_cons_zero, List.set_cons_succ]
          refine wpAnyH_take (i := 15) (oi := ⟨_, _, _, _, _, _⟩) (v := ?v36) rfl (by kernel_rfl) (by kernel_rfl) (by kernel_rfl) (fun _ _ _ h => h) ?y36 hS6 ?_
          case y36 => first | (refine Or.inr ⟨by rfl, ?_⟩; with_reducible rfl) | (refine Or.inl ⟨by rfl, ?_⟩; intro wS hSw; obtain ⟨g0, g1, g2⟩ := HGc.out wS hSw; obtain ⟨c0, c1, c2⟩ := HC.out wS (HB5.out.trans (hSw.mono HB5.out.size)); go_simp; try with_reducible rfl)
          simp only [Act.put, List.setIfInBounds_toArray, List.set_cons_zero, List.set_cons_succ]
          refine wpAnyH_done (by kernel_rfl) ?_ _
          have HB6 := Lib.hid (HB5.out.trans (hS6.mono HB5.out.size))
          have HM6 := Lib.hid (HM5.out.later hS6)
          have HTh6 := Lib.hid (row_later HTh5.out hS6)
          have HG6 := Lib.hid (row_later HG.out hS6)
          clear hS hS6 hb HM5 HTh5 HG HGc HKn
          obtain ⟨g0, g1, g2⟩ := key_row (S := [ky]) HG6.out 0 (by simp) rfl
          simp only [List.getElem_cons_zero, Nat.zero_mul, Nat.zero_add] at g0 g1 g2
          have HW := Lib.hid (without_any _ _ ky w6 (KyOwn.at (by have := HTh6.out; unfold KyOwn; rw [List.length_map, ← HTl.out]; exact this)) (by rw [List.length_map, ← HTl.out]; omega))
          go_wp2_with fail
          refine HW.out.mono ?_
          rintro e w7 ⟨v', rfl, ho, hb⟩
          rw [outK_map] at ho
          obtain ⟨ta3, tc3, rfl⟩ := own_val ho
          obtain ⟨tn3, htn3⟩ : ∃ t, t = ((dropK L ky).map (·.k)).length := ⟨_, rfl⟩
          have HT7 := Lib.hid (show w7.ownsRow w.heap.size 31 3 (.slice ta3 tn3 tc3) tn3 (((dropK L ky).map (·.k)).flatMap kyc) from by rw [htn3]; exact ownsRow_base ho HB6.out.size)
          rw [← htn3]
          have HTl3 := Lib.hid (show tn3 = (dropK L ky).length from by rw [htn3, List.length_map])
          have HB7 := Lib.hid (HB6.out.trans (hb.mono HB6.out.size))
          have HM7 := Lib.hid (HM6.out.later hb)
          have HG7 := Lib.hid (row_later HG6.out hb)
          clear ho hb htn3 HW HB6 HM6 HTh6 HG6 g0 g1 g2
          obtain ⟨g0, g1, g2⟩ := key_row (S := [ky]) HG7.out 0 (by simp) rfl
          simp only [List.getElem_cons_zero, Nat.zero_mul, Nat.zero_add] at g0 g1 g2
          have HNoA := Lib.hid (show fndK (dropK L ky) x = none from by rw [fndK_drop HH3.out.me.ln.ord.once]; split; rfl; exact HNo.out)
          have HGn := Lib.hid (mGetN_any (k := ky) w7 HM7.out (by obtain ⟨h1, h2⟩ := fndK_some HRk.out; rw [← h2]; exact HH3.out.me.ln.ord.wf _ h1) (by rw [fndK_add (r := ⟨x, next, xe⟩) HNoA.out, if_neg HKne.out, fndK_drop HH3.out.me.ln.ord.once, if_pos rfl]))
          go_wp2_with fail
          refine HGn.out.mono ?_
          rintro e w8 ⟨rfl, hb⟩
          have HB8 := Lib.hid (HB7.out.trans (hb.mono HB7.out.size))
          have HM8 := Lib.hid (HM7.out.later hb)
          have HT8 := Lib.hid (row_later HT7.out hb)
          clear hb HGn HB7 HM7 HT7 HG7 g0 g1 g2
          go_upto_region 27 with (fail)
          refine gen_world (S := fun z => Below w8.heap.size w8 z) ((Below.refl _ _).alloc (Nat.le_refl _) _) (fun v hv => ?_)
          have HBv := Lib.hid (HB8.out.trans (hv.mono HB8.out.size))
          have HM3 := Lib.hid (HM8.out.later hv)
          have HT3 := Lib.hid (row_later HT8.out hv)
          have htn3 : tn3 ≤ 300 := by have := HTl3.out; have := HDl.out; have := HTl.out; omega
          have HNx2 := Lib.hid (show ∀ a ∈ dropK L ky ++ [(⟨x, next, xe⟩ : Rec)], a.x.tree = [] ∧ a.x.tou = [] from fun a ha => by
            rcases List.mem_append.1 ha with ha | ha
            · exact HH3.out.nx a (mem_dropK.1 ha).1
            · simp at ha; subst ha; exact HXe.out.2.2.2)
          clear hv HB8 HM8 HT8
          obtain ⟨c0, c1, c2⟩ := HC.out v HBv.out
          obtain ⟨hi0, hz0, hz1, hz2i⟩ := HI.out
          go_upto_region 28 with (at_builtin; refine wpList_append_own _ rfl (.tmp 125) (.tmp 130) 22 rfl w.heap.size 31 i0 _ 3 24 Try.underlying22 hi0 hz0 hz1 hz2i rfl (by decide) _ tn3 _ rfl (HT3.out.alloc _) ⟨v.heap.size, 0, none⟩ 1 1 [.int .i64 x.rule, .int .i64 x.level, .int .i64 x.place] rfl rfl (World.news_of_block (cs := #[.int .i64 x.rule, .int .i64 x.level, .int .i64 x.place]) (t := 31) (fr := (0, 0)) (heap_alloc_new v _)) (by simp [Value.oneCell']) (by unfold maxLen; omega) (by omega) (by have := HBv.out.size; simp; omega) ?_; intro v' w9 hown hgrow _; obtain ⟨ta4, tc4, rfl⟩ := own_val hown; have HM9 := Lib.hid (HM3.out.grown HT3.out hgrow); have HB9 := Lib.hid (HBv.out.trans (((Below.refl w.heap.size v).alloc HBv.out.size _).grown hgrow (by have := HBv.out.size; simp; omega) (fun r hr => (HT3.out.lt r hr).1))); have HO9 := Lib.hid hown; clear hown hgrow hi0 hz0 hz1 hz2i c0 c1 c2)
          obtain ⟨tn2, htn9⟩ : ∃ t, t = tn3 + 1 := ⟨_, rfl⟩
          have HTl2 := Lib.hid (show tn2 = (dropK L ky ++ [(⟨x, next, xe⟩ : Rec)]).length from by rw [htn9, HTl3.out]; simp)
          have HTv := Lib.hid (show w9.ownsRow w.heap.size 31 3 (.slice ta4 tn2 tc4) tn2 (((dropK L ky ++ [(⟨x, next, xe⟩ : Rec)]).map (·.k)).flatMap kyc) from by rw [htn9, List.map_append, List.flatMap_append]; simpa [kyc] using HO9.out)
          rw [← htn9]
          have HGt := Lib.hid (show ∃ rr, fndK (dropK L ky ++ [(⟨x, next, xe⟩ : Rec)]) x = some rr ∧ rr.x.is = true ∧ rr.x.en = k ∧ rr.x.far = 0 ∧ rr.x.tree = [] ∧ rr.x.tou = [] from ⟨⟨x, next, xe⟩, by rw [fndK_add (r := ⟨x, next, xe⟩) HNoA.out, if_pos rfl], HXe.out⟩)
          have htn2 : tn2 ≤ 300 := by have h1 := HM9.out.ln.le; have h2 := HTl2.out; have h3 := HH3.out.nk; omega
          have HMv := HM9
          clear HM9 HM3 HT3 HTl3 HO9 HBv htn9
          have HBv := HB9
          clear HB9
          generalize w9 = v at *
          have hq0 := HTl.out
          have hq9 := HH3.out.lp
          have hq8 := HDl.out
          have hq7 := HTl2.out
          have hq6 : (dropK L ky ++ [(⟨x, next, xe⟩ : Rec)]).length = L.length := by rw [List.length_append]; simp; omega
          have hq1 : (tn2 : Int) ≤ room := by omega
          have hq2 : (tn2 : Int) ≤ max peak L.length := by omega
          have hq3 : max peak (L.length : Int) ≤ room := by omega
          obtain ⟨pk2, hpk2⟩ : ∃ pk, pk = max peak (L.length : Int) := ⟨_, rfl⟩
          rw [← hpk2] at hq2 hq3 HMv
          clear hq0 hq9 hq8 hq7 hq6 hpk2 hlr hpk HDl
          obtain ⟨rr, hg1, hg2, hg3, hg4, hg5, hg6⟩ := HGt.out
          obtain ⟨c0, c1, c2⟩ := HC.out v HBv.out
          have HGe := Lib.hid (mGet_any (k := x) (r := rr) v HMv.out hg1 (by rw [hg5]; simp) (by rw [hg6]; simp))
          have HG2 := Lib.hid (And.intro hg2 (And.intro hg3 (And.intro hg4 (And.intro hg5 hg6))))
          clear hg1 hg2 hg3 hg4 hg5 hg6
          go_wp2_with fail
          refine HGe.out.mono ?_
          rintro e v2 ⟨tv, kv, rfl, ho1, ho2, hb⟩
          rw [HG2.out.2.2.2.1] at ho1
          rw [HG2.out.2.2.2.2] at ho2
          rw [HG2.out.1, HG2.out.2.1, HG2.out.2.2.1, HG2.out.2.2.2.1, HG2.out.2.2.2.2]
          obtain ⟨xa, xc, rfl⟩ := own_val ho1
          obtain ⟨ya, yc, rfl⟩ := own_val ho2
          have HMv2 := Lib.hid (HMv.out.later hb)
          have HTv2 := Lib.hid (row_later HTv.out hb)
          have HBv2 := Lib.hid (HBv.out.trans (hb.mono HBv.out.size))
          clear hb ho1 ho2 c0 c1 c2 HGe HMv HTv HBv
          go_upto_region 29 with (fail)
          refine gen_world (S := fun z => Below v2.heap.size v2 z ∧ z.heap[v2.heap.size]? = some (.cells #[.bool true, .int .i64 k, .int .i64 0, .slice xa 0 xc, .slice ya 0 yc] 37 (0, 0))) (one_new v2 _) (fun z hz => ?_)
          obtain ⟨hbz, hxz⟩ := hz
          have HMz := Lib.hid (HMv2.out.later hbz)
          have HTz := Lib.hid (row_later HTv2.out hbz)
          have HBz := Lib.hid (HBv2.out.trans (hbz.mono HBv2.out.size))
          obtain ⟨⟨x0, x1, x2, x3, x4⟩, -⟩ := five_box hxz
          clear hbz hxz HMv2 HTv2 HBv2
          have hlen := mLen_any z HMz.out
          rw [← HTl2.out] at hlen
          have HLen := Lib.hid hlen
          have HPk := Lib.hid (mPeak_any z HMz.out)
          clear hlen
          go_wp2_with fail
          refine HLen.out.mono ?_
          rintro e z1 ⟨rfl, rfl⟩
          go_wp2_with fail
          refine HLen.out.mono ?_
          rintro e z1 ⟨rfl, rfl⟩
          go_wp2_with fail
          refine HPk.out.mono ?_
          rintro e z1 ⟨rfl, rfl⟩
          go_wp2_with fail
          refine HLen.out.mono ?_
          rintro e z1 ⟨rfl, rfl⟩
          go_wp2_with fail
          refine HPk.out.mono ?_
          rintro e z1 ⟨rfl, rfl⟩
          go_wp2
          go_roundw
          case rel => exact ⟨k + 1, _, _, _, next + 1, pk2, dropK L ky ++ [(⟨x, next, xe⟩ : Rec)], by omega, by go_num, rfl, by omega, Lib.hid ⟨HMz.out, HTz.out, HTl2.out, hq1, hq2, hq3, by have := HH3.out.nk; omega, HNx2.out, HBz.out⟩⟩
          case measure => simp [intOf]; omega
        · have hfu2 : ((tn : Int) == room) = false := by rw [HH3.out.tl]; simpa using hfu
          have HFu := Lib.hid hfu
          clear hfu
          refine (mPutN_any (k := x) (someX k) w3 HH3.out.me HXo.out (nil_tw w3) (nil_iv w3) (by simp [someX]) (by simp [someX]) HZ.out HNo.out HNx.out HFu.out).mono ?_
          rintro e w4 ⟨rfl, tv, kv, hm, hk⟩
          obtain ⟨xe, hxe⟩ : ∃ e : Ent, e = ⟨(someX k).is, (someX k).en, (someX k).far, (someX k).tree, (someX k).tou, tv, kv⟩ := ⟨_, rfl⟩
          rw [← hxe] at hm
          have HXe := Lib.hid (show xe.is = true ∧ xe.en = k ∧ xe.far = 0 ∧ xe.tree = [] ∧ xe.tou = [] from by rw [hxe]; exact ⟨rfl, rfl, rfl, rfl, rfl⟩)
          go_wp2_with fail
          have hS4 := hS3.trans (hk.below hS3.size)
          have HM4 := Lib.hid hm
          have HTh := Lib.hid (hk.row HH3.out.th (by decide))
          have HTl := Lib.hid HH3.out.tl
          have HB4 := Lib.hid hS4
          clear hm hk hxe
          refine hK.out _ _ hS4 (fun hSd => ?_)
          clear hSd hK K
          try simp only [Act.put, List.setIfInBounds_toArray, List.set_cons_zero, List.set_cons_succ]
          refine wpAnyH_take (i := 8) (oi := ⟨_, _, _, _, _, _⟩) (v := ?v37) rfl (by kernel_rfl) (by kernel_rfl) (by kernel_rfl) (fun _ _ _ h => h) ?y37 hS4 ?_
          case y37 => first | (refine Or.inr ⟨by rfl, ?_⟩; with_reducible rfl) | (refine Or.inl ⟨by rfl, ?_⟩; intro wS hSw; go_simp; try with_reducible rfl)
          simp only [Act.put, List.setIfInBounds_toArray, List.set_cons_zero, List.set_cons_succ]
          refine wpAnyH_take (i := 9) (oi := ⟨_, _, _, _, _, _⟩) (v := ?v38) rfl (by kernel_rfl) (by kernel_rfl) (by kernel_rfl) (fun _ _ _ h => h) ?y38 hS4 ?_
          case y38 => first | (refine Or.inr ⟨by rfl, ?_⟩; with_reducible rfl) | (refine Or.inl ⟨by rfl, ?_⟩; intro wS hSw; go_simp; try with_reducible rfl)
          simp only [Act.put, List.setIfInBounds_toArray, List.set_cons_zero, List.set_cons_succ]
          refine wpAnyH_take (i := 10) (oi := ⟨_, _, _, _, _, _⟩) (v := ?v39) rfl (by kernel_rfl) (by kernel_rfl) (by kernel_rfl) (fun _ _ _ h => h) ?y39 hS4 ?_
          case y39 => first | (refine Or.inr ⟨by rfl, ?_⟩; with_reducible rfl) | (refine Or.inl ⟨by rfl, ?_⟩; intro wS hSw; go_simp; try with_reducible rfl)
          simp only [Act.put, List.setIfInBounds_toArray, List.set_cons_zero, List.set_cons_succ]
          refine wpAnyH_take (i := 11) (oi := ⟨_, _, _, _, _, _⟩) (v := ?v40) rfl (by kernel_rfl) (by kernel_rfl) (by kernel_rfl) (fun _ _ _ h => h) ?y40 hS4 ?_
          case y40 => first | (refine Or.inr ⟨by rfl, ?_⟩; with_reducible rfl) | (refine Or.inl ⟨by rfl, ?_⟩; intro wS hSw; go_simp; try with_reducible rfl)
          simp only [Act.put, List.setIfInBounds_toArray, List.set_cons_zero, List.set_cons_succ]
          refine wpAnyH_take (i := 12) (oi := ⟨_, _, _, _, _, _⟩) (v := ?v41) rfl (by kernel_rfl) (by kernel_rfl) (by kernel_rfl) (fun _ _ _ h => h) ?y41 hS4 ?_
          case y41 => first | (refine Or.inr ⟨by rfl, ?_⟩; with_reducible rfl) | (refine Or.inl ⟨by rfl, ?_⟩; intro wS hSw; go_simp; try with_reducible rfl)
          simp only [Act.put, List.setIfInBounds_toArray, List.set_cons_zero, List.set_cons_succ]
          refine wpAnyH_done (by kernel_rfl) ?_ _
          clear hS3 hS4
          have hh := has_any _ _ x w4 (KyOwn.at (by have := HTh.out; unfold KyOwn; rw [List.length_map, ← HTl.out]; exact this)) (by rw [List.length_map, ← HTl.out]; omega)
          rw [show decide (x ∈ L.map (·.k)) = false from by simpa using HIn.out] at hh
          have HHs := Lib.hid hh
          obtain ⟨c0, c1, c2⟩ := HC.out w4 HB4.out
          clear hh
          go_wp2_with fail
          refine HHs.out.mono ?_
          rintro e w5 ⟨rfl, hb⟩
          have HB5 := Lib.hid (HB4.out.trans (hb.mono HB4.out.size))
          have HM5 := Lib.hid (HM4.out.later hb)
          have HTh5 := Lib.hid (row_later HTh.out hb)
          have HB45 := Lib.hid hb
          clear hb c0 c1 c2 HHs
          have HM3 := HM5
          have HT3 := HTh5
          have HBv := HB5
          have HTl3 := HTl
          have HNoA := HNo
          obtain ⟨tn3, htn3⟩ : ∃ t, t = tn := ⟨_, rfl⟩
          obtain rfl := htn3
          obtain ⟨ta3, hta3⟩ : ∃ t, t = ta := ⟨_, rfl⟩
          obtain rfl := hta3
          have HNx2 := Lib.hid (show ∀ a ∈ L ++ [(⟨x, next, xe⟩ : Rec)], a.x.tree = [] ∧ a.x.tou = [] from fun a ha => by
            rcases List.mem_append.1 ha with ha | ha
            · exact HH3.out.nx a ha
            · simp at ha; subst ha; exact HXe.out.2.2.2)
          clear HM5 HTh5 HB5 HM4 HTh HB4
          generalize w5 = v at *
          obtain ⟨c0, c1, c2⟩ := HC.out v HBv.out
          obtain ⟨hi0, hz0, hz1, hz2i⟩ := HI.out
          go_upto_region 28 with (at_builtin; refine wpList_append_own _ rfl (.tmp 125) (.tmp 130) 22 rfl w.heap.size 31 i0 _ 3 24 Try.underlying22 hi0 hz0 hz1 hz2i rfl (by decide) _ tn3 _ rfl (HT3.out.alloc _) ⟨v.heap.size, 0, none⟩ 1 1 [.int .i64 x.rule, .int .i64 x.level, .int .i64 x.place] rfl rfl (World.news_of_block (cs := #[.int .i64 x.rule, .int .i64 x.level, .int .i64 x.place]) (t := 31) (fr := (0, 0)) (heap_alloc_new v _)) (by simp [Value.oneCell']) (by unfold maxLen; omega) (by omega) (by have := HBv.out.size; simp; omega) ?_; intro v' w9 hown hgrow _; obtain ⟨ta4, tc4, rfl⟩ := own_val hown; have HM9 := Lib.hid (HM3.out.grown HT3.out hgrow); have HB9 := Lib.hid (HBv.out.trans (((Below.refl w.heap.size v).alloc HBv.out.size _).grown hgrow (by have := HBv.out.size; simp; omega) (fun r hr => (HT3.out.lt r hr).1))); have HO9 := Lib.hid hown; clear hown hgrow hi0 hz0 hz1 hz2i c0 c1 c2)
          obtain ⟨tn2, htn9⟩ : ∃ t, t = tn3 + 1 := ⟨_, rfl⟩
          have HTl2 := Lib.hid (show tn2 = (L ++ [(⟨x, next, xe⟩ : Rec)]).length from by rw [htn9, HTl3.out]; simp)
          have HTv := Lib.hid (show w9.ownsRow w.heap.size 31 3 (.slice ta4 tn2 tc4) tn2 (((L ++ [(⟨x, next, xe⟩ : Rec)]).map (·.k)).flatMap kyc) from by rw [htn9, List.map_append, List.flatMap_append]; simpa [kyc] using HO9.out)
          rw [← htn9]
          have HGt := Lib.hid (show ∃ rr, fndK (L ++ [(⟨x, next, xe⟩ : Rec)]) x = some rr ∧ rr.x.is = true ∧ rr.x.en = k ∧ rr.x.far = 0 ∧ rr.x.tree = [] ∧ rr.x.tou = [] from ⟨⟨x, next, xe⟩, by rw [fndK_add (r := ⟨x, next, xe⟩) HNoA.out, if_pos rfl], HXe.out⟩)
          have htn2 : tn2 ≤ 300 := by have h1 := HM9.out.ln.le; have h2 := HTl2.out; have h3 := HH3.out.nk; omega
          have HMv := HM9
          clear HM9 HM3 HT3 HTl3 HO9 HBv htn9
          have HBv := HB9
          clear HB9
          generalize w9 = v at *
          have hq0 := HTl.out
          have hq9 := HH3.out.lp
          have hq8 := HFu.out
          have hq7 := HTl2.out
          have hq6 : (L ++ [(⟨x, next, xe⟩ : Rec)]).length = L.length + 1 := by simp
          have hq1 : (tn2 : Int) ≤ room := by omega
          have hq2 : (tn2 : Int) ≤ max peak (L.length + 1) := by omega
          have hq3 : max peak ((L.length : Int) + 1) ≤ room := by omega
          obtain ⟨pk2, hpk2⟩ : ∃ pk, pk = max peak ((L.length : Int) + 1) := ⟨_, rfl⟩
          rw [← hpk2] at hq2 hq3 HMv
          clear hq0 hq9 hq8 hq7 hq6 hpk2 hlr hpk
          obtain ⟨rr, hg1, hg2, hg3, hg4, hg5, hg6⟩ := HGt.out
          obtain ⟨c0, c1, c2⟩ := HC.out v HBv.out
          have HGe := Lib.hid (mGet_any (k := x) (r := rr) v HMv.out hg1 (by rw [hg5]; simp) (by rw [hg6]; simp))
          have HG2 := Lib.hid (And.intro hg2 (And.intro hg3 (And.intro hg4 (And.intro hg5 hg6))))
          clear hg1 hg2 hg3 hg4 hg5 hg6
          go_wp2_with fail
          refine HGe.out.mono ?_
          rintro e v2 ⟨tv, kv, rfl, ho1, ho2, hb⟩
          rw [HG2.out.2.2.2.1] at ho1
          rw [HG2.out.2.2.2.2] at ho2
          rw [HG2.out.1, HG2.out.2.1, HG2.out.2.2.1, HG2.out.2.2.2.1, HG2.out.2.2.2.2]
          obtain ⟨xa, xc, rfl⟩ := own_val ho1
          obtain ⟨ya, yc, rfl⟩ := own_val ho2
          have HMv2 := Lib.hid (HMv.out.later hb)
          have HTv2 := Lib.hid (row_later HTv.out hb)
          have HBv2 := Lib.hid (HBv.out.trans (hb.mono HBv.out.size))
          clear hb ho1 ho2 c0 c1 c2 HGe HMv HTv HBv
          go_upto_region 29 with (fail)
          refine gen_world (S := fun z => Below v2.heap.size v2 z ∧ z.heap[v2.heap.size]? = some (.cells #[.bool true, .int .i64 k, .int .i64 0, .slice xa 0 xc, .slice ya 0 yc] 37 (0, 0))) (one_new v2 _) (fun z hz => ?_)
          obtain ⟨hbz, hxz⟩ := hz
          have HMz := Lib.hid (HMv2.out.later hbz)
          have HTz := Lib.hid (row_later HTv2.out hbz)
          have HBz := Lib.hid (HBv2.out.trans (hbz.mono HBv2.out.size))
          obtain ⟨⟨x0, x1, x2, x3, x4⟩, -⟩ := five_box hxz
          clear hbz hxz HMv2 HTv2 HBv2
          have hlen := mLen_any z HMz.out
          rw [← HTl2.out] at hlen
          have HLen := Lib.hid hlen
          have HPk := Lib.hid (mPeak_any z HMz.out)
          clear hlen
          go_wp2_with fail
          refine HLen.out.mono ?_
          rintro e z1 ⟨rfl, rfl⟩
          go_wp2_with fail
          refine HLen.out.mono ?_
          rintro e z1 ⟨rfl, rfl⟩
          go_wp2_with fail
          refine HPk.out.mono ?_
          rintro e z1 ⟨rfl, rfl⟩
          go_wp2_with fail
          refine HLen.out.mono ?_
          rintro e z1 ⟨rfl, rfl⟩
          go_wp2_with fail
          refine HPk.out.mono ?_
          rintro e z1 ⟨rfl, rfl⟩
          go_wp2
          go_roundw
          case rel => exact ⟨k + 1, _, _, _, next + 1, pk2, L ++ [(⟨x, next, xe⟩ : Rec)], by omega, by go_num, rfl, by omega, Lib.hid ⟨HMz.out, HTz.out, HTl2.out, hq1, hq2, hq3, by have := HH3.out.nk; omega, HNx2.out, HBz.out⟩⟩
          case measure => simp [intOf]; omega
    · obtain rfl : k = n := by omega
      have hlt2 : ¬ (k : Int) < k := by omega
      go_wp2
      go_ret
      exact ⟨rfl, HH.out.bel⟩
end Go.Proofs.Ytpchjpmkkiopiaa
