import Derived.Test.YtpchjpmkkiopiaaGreatMeIm
namespace Go.Proofs.YtpchjpmkkiopiaaGreat
open Go.RowKit Go.Lib

theorem fndK_mem {L : List Rec} (ho : (L.map (·.k)).Nodup) (x : Ky) : (fndK L x).isSome = true ↔ x ∈ L.map (·.k) := by
  rw [List.mem_map]
  constructor
  · intro h
    obtain ⟨r, hr⟩ := Option.isSome_iff_exists.1 h
    exact ⟨r, (fndK_some hr).1, (fndK_some hr).2⟩
  · rintro ⟨r, hr, rfl⟩
    rw [fndK_is ho hr]
    rfl
/-- all keys, in order. -/
def KeysOk (L : List Rec) (S : List Ky) : Prop := S.Perm (L.map (·.k)) ∧ S.Pairwise Ky.le
set_option maxRecDepth 100000 in
set_option maxHeartbeats 2000000 in
theorem mKeys_any [Watch] {base : Nat} {p q nm km em : Nat} {next room peak : Int} {L : List Rec} (w : World) (h : MeIs base w p q nm km em next room peak L) :
    Calls Tryz.prog 28 #[.pointer (some ⟨p, 0, none⟩)] w fun e w' => ∃ v S, KeysOk L S ∧ e = .returned v ∧ w'.ownsRow w.heap.size 24 3 v S.length (S.flatMap kyc) ∧ Below w.heap.size w w' := by
  have H := Lib.hid h
  obtain ⟨⟨-, -, -, -, -, -, c6⟩, -⟩ := seven_box h.ln.blk
  have hsz : L.length ≤ 100000 := by have := h.ln.le; have := h.ln.nle; omega
  clear h
  go_enter Tryz.func28, Tryz.ntmps28
  go_wp2_with fail
  refine (H.out.ln.made w).mono ?_
  rintro e w1 ⟨rfl, rfl⟩
  go_wp2_with fail
  refine (mkeys_any em w).mono ?_
  rintro e w1 ⟨rfl, rfl⟩
  obtain ⟨hb, hx⟩ := one_new w (.cells #[.map (some em)] 72 (0, 0))
  have HC := Lib.hid (ksortedFunc_any w.heap.size em L.length _ hsz _ (by rw [(block_cell' hx 0).1]; rfl) (H.out.en.map.later hb))
  have HB := Lib.hid hb
  clear c6 hsz hb hx
  go_wp2_with fail
  refine HC.out.mono ?_
  rintro e w2 ⟨v, S, rfl, hA, hs, hown, hb2⟩
  have HE := Lib.hid (show KeysOk L S ∧ w2.ownsRow w.heap.size 24 3 v S.length (S.flatMap kyc) ∧ Below w.heap.size w w2 from by
    refine ⟨⟨?_, hs⟩, ownsRow_base hown HB.out.size, HB.out.trans (hb2.mono HB.out.size)⟩
    rw [List.perm_ext_iff_of_nodup hA.1 H.out.ln.ord.once]
    intro x
    constructor
    · intro hx
      have := (hA.2.1 x (hA.2.2.1 x hx)).2 hx
      rw [Option.isSome_map] at this
      exact (fndK_mem H.out.ln.ord.once x).1 this
    · intro hx
      obtain ⟨r, hr, rfl⟩ := List.mem_map.1 hx
      refine (hA.2.1 _ (H.out.ln.ord.wf r hr)).1 ?_
      rw [Option.isSome_map]
      exact (fndK_mem H.out.ln.ord.once _).2 hx)
  clear hA hs hown hb2 HC
  go_wp2
  go_ret
  exact ⟨v, S, HE.out.1, rfl, HE.out.2⟩

/-- what is left where the keys of a place, among some, are let go. -/
def clrS (L : List Rec) (pl : Int) (S : List Ky) : List Rec := L.filter fun r => !(decide (r.k.place = pl) && decide (r.k ∈ S))
def cntS (pl : Int) (S : List Ky) : Nat := S.countP fun x => decide (x.place = pl)
def clrK (L : List Rec) (pl : Int) : List Rec := L.filter fun r => decide (r.k.place ≠ pl)
theorem clrS_nil (L : List Rec) (pl : Int) : clrS L pl [] = L := by
  unfold clrS
  rw [List.filter_eq_self]
  intro r _
  simp
theorem clrS_all {L : List Rec} {pl : Int} {S : List Ky} (h : KeysOk L S) : clrS L pl S = clrK L pl := by
  unfold clrS clrK
  apply List.filter_congr
  intro r hr
  have : r.k ∈ S := h.1.mem_iff.2 (List.mem_map.2 ⟨r, hr, rfl⟩)
  simp [this]
theorem clrS_other {L : List Rec} {pl : Int} {S : List Ky} {x : Ky} (h : x.place ≠ pl) : clrS L pl (S ++ [x]) = clrS L pl S := by
  unfold clrS
  apply List.filter_congr
  intro r hr
  congr 1
  rw [Bool.eq_iff_iff]
  simp only [Bool.and_eq_true, decide_eq_true_eq, List.mem_append, List.mem_singleton]
  constructor
  · rintro ⟨h1, h2 | h2⟩
    · exact ⟨h1, h2⟩
    · rw [h2] at h1; exact absurd h1 h
  · rintro ⟨h1, h2⟩
    exact ⟨h1, .inl h2⟩
theorem clrS_drop {L : List Rec} {pl : Int} {S : List Ky} {x : Ky} (h : x.place = pl) : clrS L pl (S ++ [x]) = dropK (clrS L pl S) x := by
  unfold clrS dropK
  rw [List.filter_filter]
  apply List.filter_congr
  intro r hr
  rw [Bool.eq_iff_iff]
  simp only [Bool.not_eq_true', Bool.and_eq_true, Bool.and_eq_false_iff, decide_eq_false_iff_not, List.mem_append, List.mem_singleton, bne_iff_ne]
  constructor
  · rintro (h1 | h1)
    · exact ⟨fun e => h1 (by rw [e]; exact h), .inl h1⟩
    · exact ⟨fun e => h1 (.inr e), .inr (fun e => h1 (.inl e))⟩
  · rintro ⟨h1, h2 | h2⟩
    · exact .inl h2
    · exact .inr (fun e => e.elim h2 h1)
theorem clrS_has {L : List Rec} {pl : Int} {S : List Ky} {x : Ky} (ho : (L.map (·.k)).Nodup) (hx : x ∈ L.map (·.k)) (hn : x ∉ S) : ∃ r, fndK (clrS L pl S) x = some r := by
  obtain ⟨r, hr, rfl⟩ := List.mem_map.1 hx
  refine ⟨r, fndK_is (ho.sublist ((List.filter_sublist).map _)) ?_⟩
  rw [List.mem_filter]
  exact ⟨hr, by simp [hn]⟩
theorem cntS_snoc (pl : Int) (S : List Ky) (x : Ky) : cntS pl (S ++ [x]) = cntS pl S + if x.place = pl then 1 else 0 := by
  unfold cntS
  rw [List.countP_append]
  by_cases h : x.place = pl <;> simp [h]
theorem cnt_clr (L : List Rec) (pl : Int) : cntS pl (L.map (·.k)) + (clrK L pl).length = L.length := by
  induction L with
  | nil => rfl
  | cons a L ih =>
    unfold cntS clrK at ih ⊢
    simp only [List.map_cons, List.countP_cons, List.filter_cons, List.length_cons]
    by_cases h : a.k.place = pl
    · rw [if_pos (by simpa using h), if_neg (by simpa using h)]
      omega
    · rw [if_neg (by simpa using h), if_pos (by simpa using h)]
      simp only [List.length_cons]
      omega
theorem key_row {w : World} {base g n cap : Nat} {S : List Ky} (h : w.ownsRow base 24 3 (.slice (some ⟨g, 0, none⟩) n cap) n (S.flatMap kyc)) (i : Nat) (hi : i < S.length) (hn : n = S.length) :
    w.cell? ⟨g, i * 3, none⟩ = some (.int .i64 (S[i]).rule) ∧ w.cell? ⟨g, i * 3 + 1, none⟩ = some (.int .i64 (S[i]).level) ∧ w.cell? ⟨g, i * 3 + 2, none⟩ = some (.int .i64 (S[i]).place) := by
  refine ⟨?_, ?_, ?_⟩
  · have := h.cellAt (i * 3) (by omega)
    rw [this]
    have := flat_get kyc_len S i 0 hi (by omega)
    simpa [kyc] using this
  · rw [h.cellAt (i * 3 + 1) (by omega)]
    have := flat_get kyc_len S i 1 hi (by omega)
    simpa [kyc] using this
  · rw [h.cellAt (i * 3 + 2) (by omega)]
    have := flat_get kyc_len S i 2 hi (by omega)
    simpa [kyc] using this
set_option maxRecDepth 100000 in
set_option maxHeartbeats 4000000 in
theorem mClear_any [Watch] {base : Nat} {p q nm km em : Nat} {next room peak : Int} {L : List Rec} (pl : Int) (w : World) (h : MeIs base w p q nm km em next room peak L) :
    Calls Tryz.prog 19 #[.pointer (some ⟨p, 0, none⟩), .int .i64 pl] w fun e w' => e = .returned (.int .i64 (L.length - (clrK L pl).length : Int)) ∧ MeIs base w' p q nm km em next room peak (clrK L pl) ∧ KeepM base w w' := by
  have H := Lib.hid h
  clear h
  go_enter Tryz.func19, Tryz.ntmps19
  go_wp2_with fail
  refine (mKeys_any w H.out).mono ?_
  rintro e u ⟨v, S, hS, rfl, hown, hb⟩
  obtain ⟨ao, cap, rfl⟩ := own_val hown
  have HS := Lib.hid hS
  have HO := Lib.hid hown
  have HB := Lib.hid hb
  obtain ⟨n, hn⟩ : ∃ n, n = S.length := ⟨_, rfl⟩
  have hnl : n ≤ 100000 := by rw [hn, hS.1.length_eq, List.length_map]; have := H.out.ln.le; have := H.out.ln.nle; omega
  have HN := Lib.hid hn
  rw [← hn] at HO ⊢
  clear hS hown hb hn
  have H0 := Lib.hid (show MeIs base u p q nm km em next room peak (clrS L pl (S.take 0)) ∧ u.ownsRow w.heap.size 24 3 (.slice ao n cap) n (S.flatMap kyc) ∧ KeepM base w u from ⟨by rw [List.take_zero, clrS_nil]; exact H.out.later HB.out, HO.out, Keeps.ofNew HB.out _⟩)
  clear HO HB
  go_wp2
  go_loopw [4, 10] (fun c i wr => ∃ k : Nat, k ≤ n ∧ i = .int .i64 k ∧ c = .int .i64 (cntS pl (S.take k)) ∧ Hid (MeIs base wr p q nm km em next room peak (clrS L pl (S.take k)) ∧ wr.ownsRow w.heap.size 24 3 (.slice ao n cap) n (S.flatMap kyc) ∧ KeepM base w wr)) (fun _ i _ => n - (intOf i).toNat)
  case atStart => exact ⟨0, Nat.zero_le _, rfl, rfl, H0⟩
  case round =>
    obtain ⟨k, hk, rfl, rfl, HR⟩ := hrel
    by_cases hlt : k < n
    · have hlt2 : (k : Int) < n := by omega
      obtain ⟨g, cap2, hv⟩ := own_shape HR.out.2.1 (by omega)
      obtain ⟨rfl, rfl⟩ : ao = some ⟨g, 0, none⟩ ∧ cap = cap2 := by simpa using hv
      have hkS : k < S.length := by rw [← HN.out]; exact hlt
      obtain ⟨x, hx⟩ : ∃ x, x = S[k] := ⟨_, rfl⟩
      have HX := Lib.hid hx
      obtain ⟨r0, r1, r2⟩ := key_row HR.out.2.1 k hkS HN.out
      rw [← hx] at r0 r1 r2
      have htk : S.take (k + 1) = S.take k ++ [x] := by rw [hx]; exact List.take_succ_eq_append_getElem hkS
      have HTk := Lib.hid htk
      have hxo : kyOk x := by
        have hm : x ∈ S := by rw [hx]; exact List.getElem_mem hkS
        obtain ⟨r, hr, e⟩ := List.mem_map.1 (HS.out.1.mem_iff.1 hm)
        rw [← e]
        exact H.out.ln.ord.wf r hr
      have HXo := Lib.hid hxo
      have hcb : cntS pl (S.take k) ≤ k := by unfold cntS; refine Nat.le_trans (List.countP_le_length) (by rw [List.length_take]; omega)
      obtain ⟨cn, hcn⟩ : ∃ cn, cn = cntS pl (S.take k) := ⟨_, rfl⟩
      have HCn := Lib.hid hcn
      rw [← hcn] at hcb ⊢
      have hal := (Below.refl wr.heap.size wr).alloc (Nat.le_refl _) (.cells #[.int .i64 x.rule, .int .i64 x.level, .int .i64 x.place] 24 (0, 0))
      have HAl := Lib.hid hal
      clear hx hv htk hxo hcn hal
      have HkS := Lib.hid hkS
      by_cases hp : x.place = pl
      · have hp2 : (x.place == pl) = true := by simpa using hp
        have hp3 : decide (x.place = pl) = true := by simpa using hp
        have HP := Lib.hid hp
        have hnin : x ∉ S.take k := by
          rw [HX.out]
          intro hm
          have hnd : S.Nodup := HS.out.1.nodup_iff.2 H.out.ln.ord.once
          obtain ⟨j, hj, e⟩ := List.mem_iff_getElem.1 hm
          rw [List.length_take] at hj
          rw [List.getElem_take] at e
          have := (List.getElem_inj hnd).1 e
          omega
        obtain ⟨rr, hrr⟩ := clrS_has (pl := pl) H.out.ln.ord.once (show x ∈ L.map (·.k) from HS.out.1.mem_iff.1 (by rw [HX.out]; exact List.getElem_mem _)) hnin
        have HRr := Lib.hid hrr
        clear hp hnin hrr
        go_wp2_with fail
        refine (mDrop_any (k := x) _ (HR.out.1.later HAl.out) HRr.out).mono ?_
        rintro e w3 ⟨rfl, hm, hk3⟩
        have HM := Lib.hid hm
        have HO3 := Lib.hid (hk3.row (row_later HR.out.2.1 HAl.out) (by decide))
        have HK3 := Lib.hid (KeepM.trans (KeepM.trans HR.out.2.2 (Keeps.ofNew HAl.out _)) hk3)
        clear hm hk3 r0 r1 r2
        go_wp2
        go_roundw
        case rel => exact ⟨k + 1, by omega, by go_num, by rw [HTk.out, cntS_snoc, if_pos HP.out, ← HCn.out]; go_num, Lib.hid ⟨by rw [HTk.out, clrS_drop HP.out]; exact HM.out, HO3.out, HK3.out⟩⟩
        case measure => simp [intOf]; omega
      · have hp2 : (x.place == pl) = false := by simpa using hp
        have hp3 : decide (x.place = pl) = false := by simpa using hp
        have HP := Lib.hid hp
        clear hp
        go_wp2
        go_roundw
        case rel => exact ⟨k + 1, by omega, by go_num, by rw [HTk.out, cntS_snoc, if_neg HP.out, ← HCn.out]; rfl, Lib.hid ⟨by rw [HTk.out, clrS_other HP.out]; exact HR.out.1.later HAl.out, row_later HR.out.2.1 HAl.out, KeepM.trans HR.out.2.2 (Keeps.ofNew HAl.out _)⟩⟩
        case measure => simp [intOf]; omega
    · obtain rfl : k = n := by omega
      have hlt2 : ¬ (k : Int) < k := by omega
      have HT := Lib.hid (show S.take k = S from by rw [HN.out]; exact List.take_length)
      have HC := Lib.hid (show (cntS pl (S.take k) : Int) = L.length - (clrK L pl).length from by
        rw [HT.out]
        have h1 : cntS pl S = cntS pl (L.map (·.k)) := by unfold cntS; exact HS.out.1.countP_eq _
        have h2 := cnt_clr L pl
        omega)
      go_wp2
      go_ret
      exact ⟨by rw [← HC.out]; rfl, by have := HR.out.1; rw [HT.out, clrS_all HS.out] at this; exact this, HR.out.2.2⟩
end Go.Proofs.YtpchjpmkkiopiaaGreat
namespace Go.Proofs.YtpchjpmkkiopiaaGreat
open Go.RowKit Go.Lib

theorem it_nil (w : World) : ItAt w (.slice none 0 0) [] := ⟨none, 0, 0, 0, rfl, fun h => by simp at h, fun i h => by simp at h⟩
theorem Qu.widen {J : Watch} {B B' q : Nat} {w w' : World} {t : Int} {M : List En} (h : @Qu J B w q t M) (hb : Below w.heap.size w w') (hB : B' ≤ B) (I : Watch) (h1 : ∀ k, I.W k → J.W k ∨ w.heap.size ≤ k ∨ k < B) (h2 : I.lim ≤ w'.heap.size) : @Qu I B' w' q t M := by
  obtain ⟨⟨r, m, lv, L, g1, g2⟩, g3⟩ := h
  have g4 := @QuIs.later J _ _ _ _ _ _ _ _ _ g1 hb
  obtain ⟨q1, ⟨p1, p2, p3, p4, p5, p6, p7, p8, p9, p10, p11, -⟩, q3, q4, q5⟩ := g4
  obtain ⟨-, ⟨e1, e2, e3, -⟩, -⟩ := g1
  have hn : ∀ k, k < w.heap.size → B ≤ k → ¬ J.W k → ¬ I.W k := fun k hk hk2 hj hi => by rcases h1 k hi with h | h | h; exact hj h; omega; omega
  exact ⟨⟨r, m, lv, L, ⟨q1, ⟨p1, ownsRow_base p2 hB, p3, p4, p5, Nat.le_trans hB p6, Nat.le_trans hB p7, p8, hn _ (lt_of_block e1) p6 p9, hn _ e3.lt p7 p10, fun k hk => hn k (e2.lt k hk).2 (e2.lt k hk).1 (p11 k hk), h2⟩, q3, q4, Nat.le_trans hB q5⟩, g2⟩, g3⟩
theorem new_close [Watch] {base q : Nat} {room : Int} {w w1 : World} (hb : base ≤ w.heap.size) (hl : Watch.lim ≤ w.heap.size) (hq : Qu base w1 q 0 []) (hqs : w.heap.size ≤ q) (hb1 : Below w.heap.size w w1) :
    ∃ w2, w2 = ((((w1.alloc (.map #[] 0)).alloc (.map #[] 0)).alloc (.map #[] 0)).alloc (.cells #[.pointer (some ⟨q, 0, none⟩), .map (some w1.heap.size), .map (some (w1.heap.size + 1)), .int .i64 0, .int .i64 room, .int .i64 0, .map (some (w1.heap.size + 1 + 1))] 74 (0, 0))) ∧
      MeIs base w2 (w1.heap.size + 1 + 1 + 1) q w1.heap.size (w1.heap.size + 1) (w1.heap.size + 1 + 1) 0 room 0 [] ∧ Below w.heap.size w w2 := by
  obtain ⟨s, hs⟩ : ∃ s, s = w1.heap.size := ⟨_, rfl⟩
  have hsw := hb1.size
  have b1 := (one_new w1 (.map #[] 0)).1
  have m1 := MapV.made kyK w1
  obtain ⟨a1, ha1⟩ : ∃ a, a = w1.alloc (.map #[] 0) := ⟨_, rfl⟩
  have z1 : a1.heap.size = s + 1 := by rw [ha1, hs]; simp
  have b2 := (one_new a1 (.map #[] 0)).1
  have m2 := MapV.made intK a1
  obtain ⟨a2, ha2⟩ : ∃ a, a = a1.alloc (.map #[] 0) := ⟨_, rfl⟩
  have z2 : a2.heap.size = s + 1 + 1 := by rw [ha2]; simp [z1]
  have b3 := (one_new a2 (.map #[] 0)).1
  have m3 := MapV.made kyK a2
  obtain ⟨a3, ha3⟩ : ∃ a, a = a2.alloc (.map #[] 0) := ⟨_, rfl⟩
  have z3 : a3.heap.size = s + 1 + 1 + 1 := by rw [ha3]; simp [z2]
  obtain ⟨b4, x4⟩ := one_new a3 (.cells #[.pointer (some ⟨q, 0, none⟩), .map (some s), .map (some (s + 1)), .int .i64 0, .int .i64 room, .int .i64 0, .map (some (s + 1 + 1))] 74 (0, 0))
  obtain ⟨a4, ha4⟩ : ∃ a, a = a3.alloc (.cells #[.pointer (some ⟨q, 0, none⟩), .map (some s), .map (some (s + 1)), .int .i64 0, .int .i64 room, .int .i64 0, .map (some (s + 1 + 1))] 74 (0, 0)) := ⟨_, rfl⟩
  have z4 : a4.heap.size = s + 1 + 1 + 1 + 1 := by rw [ha4]; simp [z3]
  rw [← ha1] at b1 m1
  rw [← ha2] at b2 m2
  rw [← ha3] at b3 m3
  rw [← ha4] at b4 x4
  rw [← ha1, ← hs, ← ha2, ← ha3, ← ha4]
  rw [← hs] at b1 m1 hsw
  rw [z1] at b2 m2
  rw [z2] at b3 m3
  rw [z3] at b4 x4
  have B34 := b4
  have B24 := b3.trans (b4.mono (by omega))
  have B14 := b2.trans (B24.mono (by omega))
  have B04 := b1.trans (B14.mono (by omega))
  have hqlt := hq.lt
  rw [← hs] at hqlt
  have hnW : ∀ k, w.heap.size ≤ k → ¬ Watch.W k := fun k hk hw => by have := Watch.lt k hw; omega
  refine ⟨a4, rfl, ⟨⟨x4, ?_, (m1.later (by rw [z1]; exact B14)).ext (fun _ _ => rfl), (m2.later (by rw [z2]; exact B24)).ext (fun _ _ => rfl), ⟨by simp, by simp, by simp, by simp⟩, by omega, by omega, by simp, by omega, by omega, by omega, by omega, by omega, by omega, by omega, by omega, by omega, hnW _ (by omega), hnW _ hqs, hnW _ (by omega), hnW _ (by omega), hnW _ (by omega), by omega⟩, ⟨(m3.later (by rw [z3]; exact B34)).ext (fun _ _ => rfl), by simp, by simp⟩⟩, hb1.trans (B04.mono (by omega))⟩
  refine Qu.widen hq (by rw [← hs]; exact B04) (Nat.le_refl _) _ (fun k hk => ?_) (by show max Watch.lim _ ≤ _; omega)
  rcases hk with hk | hk | hk | hk
  · exact .inl hk
  all_goals exact .inr (.inl (by omega))
set_option maxRecDepth 100000 in
set_option maxHeartbeats 2000000 in
theorem mNewE_any (room : Int) (w : World) (h : room < 0) :
    Calls Tryz.prog 9 #[.int .i64 room] w fun e w' => e = .returned (.tuple #[.pointer none, .int .i64 2]) ∧ Below w.heap.size w w' := by
  go_enter Tryz.func9, Tryz.ntmps9
  go_wp2
  exact bodyPost_ret (v := .tuple #[.pointer none, .int .i64 2]) (by simp [results, Tryz.f9, go_sem]) rfl ⟨rfl, Below.refl _ _⟩
set_option maxRecDepth 100000 in
set_option maxHeartbeats 2000000 in
theorem mNew_any [Watch] {base : Nat} (room : Int) (w : World) (h : 0 ≤ room) (hb : base ≤ w.heap.size) (hl : Watch.lim ≤ w.heap.size) :
    Calls Tryz.prog 9 #[.int .i64 room] w fun e w' => ∃ p q nm km em, e = .returned (.tuple #[.pointer (some ⟨p, 0, none⟩), .int .i64 0]) ∧ MeIs base w' p q nm km em 0 room 0 [] ∧ Below w.heap.size w w' := by
  have hr : ¬ room < 0 := by omega
  have hmm := @run_makeMap Tryz.prog
  have HB := Lib.hid hb
  have HL := Lib.hid hl
  clear hb hl h
  go_enter Tryz.func9, Tryz.ntmps9
  go_wp2_with fail
  refine (quNew (base := base) (l := []) w HB.out HL.out (it_nil w) (by simp) (by simp) rfl).mono ?_
  rintro e w1 ⟨q, rfl, hqs, hq, hb1⟩
  have HE := Lib.hid (new_close (room := room) HB.out HL.out hq hqs hb1)
  clear hqs hq hb1
  go_wp2
  go_ret2
  obtain ⟨w2, rfl, hm, hb2⟩ := HE.out
  exact ⟨_, q, _, _, _, rfl, hm, hb2⟩
theorem cloneK [Watch] {w : World} {m s : Nat} {f : Int → Option Value} (h : MapV intK w m s f) :
    Calls Tryz.prog 60 #[.map (some m)] w fun e w' => e = .returned (.map (some w.heap.size)) ∧ MapV intK w' w.heap.size s f ∧ Below w.heap.size w w' := by
  obtain ⟨es, clock, hb⟩ := h.blk
  have hcon := AnyW.maps_Clone Tryz.cloneK m es clock w hb
  change Calls Tryz.prog 60 _ _ _ at hcon
  refine hcon.mono ?_
  rintro e w' ⟨rfl, rfl⟩
  obtain ⟨h1, h2⟩ := one_new w (.map es clock)
  exact ⟨rfl, h.copied (h2.trans hb.symm), h1⟩
theorem cloneN [Watch] {w : World} {m s : Nat} {f : Ky → Option Value} (h : MapV kyK w m s f) :
    Calls Tryz.prog 59 #[.map (some m)] w fun e w' => e = .returned (.map (some w.heap.size)) ∧ MapV kyK w' w.heap.size s f ∧ Below w.heap.size w w' := by
  obtain ⟨es, clock, hb⟩ := h.blk
  have hcon := AnyW.maps_Clone Tryz.cloneN m es clock w hb
  change Calls Tryz.prog 59 _ _ _ at hcon
  refine hcon.mono ?_
  rintro e w' ⟨rfl, rfl⟩
  obtain ⟨h1, h2⟩ := one_new w (.map es clock)
  exact ⟨rfl, h.copied (h2.trans hb.symm), h1⟩
/-- what a line's copy is. -/
structure LnGot (B : Nat) (w : World) (o nm km : Nat) (next : Int) (L : List Rec) : Prop where
  qu : ∀ m2, m2 < B → @Qu (@inw noWatch nm km m2) B w o next (L.map enR)
  names : MapV kyK w nm L.length (fun k => (fndK L k).map fun r => .int .i64 r.n)
  keys : MapV intK w km L.length (fun n => (fndN L n).map fun r => kyv r.k)
  on : o < nm
  nk : nm < km
  bo : B ≤ o
theorem LnGot.later {B : Nat} {w w' : World} {o nm km : Nat} {next : Int} {L : List Rec} (h : LnGot B w o nm km next L) (hb : Below w.heap.size w w') : LnGot B w' o nm km next L :=
  ⟨fun m2 hm => @Qu.later (@inw noWatch nm km m2) _ _ _ _ _ _ (h.qu m2 hm) hb, h.names.later hb, h.keys.later hb, h.on, h.nk, h.bo⟩
set_option maxRecDepth 100000 in
set_option maxHeartbeats 4000000 in
theorem lnCopied_any [Watch] {base : Nat} {p q nm km em : Nat} {next room peak : Int} {L : List Rec} (w : World) (h : LnIs base w p q nm km em next room peak L) :
    Calls Tryz.prog 39 #[.pointer (some ⟨p, 0, none⟩)] w fun e w' => ∃ o nm' km', e = .returned (.agg #[.pointer (some ⟨o, 0, none⟩), .map (some nm'), .map (some km'), .int .i64 next]) ∧ LnGot w.heap.size w' o nm' km' next L ∧ Below w.heap.size w w' := by
  have H := Lib.hid h
  clear h
  go_enter Tryz.func39, Tryz.ntmps39
  go_upto_region 1 with (fail)
  refine gen_world (S := fun u => Below w.heap.size w u ∧ u.heap[w.heap.size]? = some (.cells #[.pointer none, .map none, .map none, .int .i64 0] 71 (0, 0))) (one_new w _) (fun u hu => ?_)
  obtain ⟨hb, hx⟩ := hu
  obtain ⟨X, hX⟩ : ∃ X, X = w.heap.size := ⟨_, rfl⟩
  have HXe := Lib.hid hX
  rw [← hX] at hx ⊢
  have HB := Lib.hid hb
  have HX := Lib.hid hx
  clear hX hb hx
  refine wp_region_held_drew (S := fun v => Below w.heap.size w v) (by kernel_rfl) HB.out.drew (fun hS => ?_)
  refine wpAnyH_take (i := 0) (oi := ⟨_, _, _, _, _, _⟩) (v := ?v1) rfl (by kernel_rfl) (by kernel_rfl) (by kernel_rfl) (fun _ _ _ h => h) ?y1 hS ?_
  case y1 => first | (refine Or.inr ⟨by rfl, ?_⟩; with_reducible rfl) | (refine Or.inl ⟨by rfl, ?_⟩; intro wS hSw; obtain ⟨⟨a0, a1, a2, a3, -⟩, -⟩ := seven_box (H.out.later hSw).blk; go_simp; try with_reducible rfl)
  simp only [Act.put, List.setIfInBounds_toArray, List.set_cons_zero, List.set_cons_succ]
  refine wpAnyH_take (i := 1) (oi := ⟨_, _, _, _, _, _⟩) (v := ?v2) rfl (by kernel_rfl) (by kernel_rfl) (by kernel_rfl) (fun _ _ _ h => h) ?y2 hS ?_
  case y2 => first | (refine Or.inr ⟨by rfl, ?_⟩; with_reducible rfl) | (refine Or.inl ⟨by rfl, ?_⟩; intro wS hSw; obtain ⟨⟨a0, a1, a2, a3, -⟩, -⟩ := seven_box (H.out.later hSw).blk; go_simp; try with_reducible rfl)
  simp only [Act.put, List.setIfInBounds_toArray, List.set_cons_zero, List.set_cons_succ]
  refine wpAnyH_take (i := 2) (oi := ⟨_, _, _, _, _, _⟩) (v := ?v3) rfl (by kernel_rfl) (by kernel_rfl) (by kernel_rfl) (fun _ _ _ h => h) ?y3 hS ?_
  case y3 => first | (refine Or.inr ⟨by rfl, ?_⟩; with_reducible rfl) | (refine Or.inl ⟨by rfl, ?_⟩; intro wS hSw; obtain ⟨⟨a0, a1, a2, a3, -⟩, -⟩ := seven_box (H.out.later hSw).blk; go_simp; try with_reducible rfl)
  simp only [Act.put, List.setIfInBounds_toArray, List.set_cons_zero, List.set_cons_succ]
  refine wpAnyH_take (i := 3) (oi := ⟨_, _, _, _, _, _⟩) (v := ?v4) rfl (by kernel_rfl) (by kernel_rfl) (by kernel_rfl) (fun _ _ _ h => h) ?y4 hS ?_
  case y4 => first | (refine Or.inr ⟨by rfl, ?_⟩; with_reducible rfl) | (refine Or.inl ⟨by rfl, ?_⟩; intro wS hSw; obtain ⟨⟨a0, a1, a2, a3, -⟩, -⟩ := seven_box (H.out.later hSw).blk; go_simp; try with_reducible rfl)
  simp only [Act.put, List.setIfInBounds_toArray, List.set_cons_zero, List.set_cons_succ]
  refine wpAnyH_take (i := 5) (oi := ⟨_, _, _, _, _, _⟩) (v := ?v5) rfl (by kernel_rfl) (by kernel_rfl) (by kernel_rfl) (fun _ _ _ h => h) ?y5 hS ?_
  case y5 => first | (refine Or.inr ⟨by rfl, ?_⟩; with_reducible rfl) | (refine Or.inl ⟨by rfl, ?_⟩; intro wS hSw; obtain ⟨⟨a0, a1, a2, a3, -⟩, -⟩ := seven_box (H.out.later hSw).blk; go_simp; try with_reducible rfl)
  simp only [Act.put, List.setIfInBounds_toArray, List.set_cons_zero, List.set_cons_succ]
  refine wpAnyH_take (i := 6) (oi := ⟨_, _, _, _, _, _⟩) (v := ?v6) rfl (by kernel_rfl) (by kernel_rfl) (by kernel_rfl) (fun _ _ _ h => h) ?y6 hS ?_
  case y6 => first | (refine Or.inr ⟨by rfl, ?_⟩; with_reducible rfl) | (refine Or.inl ⟨by rfl, ?_⟩; intro wS hSw; obtain ⟨⟨a0, a1, a2, a3, -⟩, -⟩ := seven_box (H.out.later hSw).blk; go_simp; try with_reducible rfl)
  simp only [Act.put, List.setIfInBounds_toArray, List.set_cons_zero, List.set_cons_succ]
  refine wpAnyH_take (i := 7) (oi := ⟨_, _, _, _, _, _⟩) (v := ?v7) rfl (by kernel_rfl) (by kernel_rfl) (by kernel_rfl) (fun _ _ _ h => h) ?y7 hS ?_
  case y7 => first | (refine Or.inr ⟨by rfl, ?_⟩; with_reducible rfl) | (refine Or.inl ⟨by rfl, ?_⟩; intro wS hSw; obtain ⟨⟨a0, a1, a2, a3, -⟩, -⟩ := seven_box (H.out.later hSw).blk; go_simp; try with_reducible rfl)
  simp only [Act.put, List.setIfInBounds_toArray, List.set_cons_zero, List.set_cons_succ]
  refine wpAnyH_take (i := 8) (oi := ⟨_, _, _, _, _, _⟩) (v := ?v8) rfl (by kernel_rfl) (by kernel_rfl) (by kernel_rfl) (fun _ _ _ h => h) ?y8 hS ?_
  case y8 => first | (refine Or.inr ⟨by rfl, ?_⟩; with_reducible rfl) | (refine Or.inl ⟨by rfl, ?_⟩; intro wS hSw; obtain ⟨⟨a0, a1, a2, a3, -⟩, -⟩ := seven_box (H.out.later hSw).blk; go_simp; try with_reducible rfl)
  simp only [Act.put, List.setIfInBounds_toArray, List.set_cons_zero, List.set_cons_succ]
  refine wpAnyH_take (i := 10) (oi := ⟨_, _, _, _, _, _⟩) (v := ?v9) rfl (by kernel_rfl) (by kernel_rfl) (by kernel_rfl) (fun _ _ _ h => h) ?y9 hS ?_
  case y9 => first | (refine Or.inr ⟨by rfl, ?_⟩; with_reducible rfl) | (refine Or.inl ⟨by rfl, ?_⟩; intro wS hSw; obtain ⟨⟨a0, a1, a2, a3, -⟩, -⟩ := seven_box (H.out.later hSw).blk; go_simp; try with_reducible rfl)
  simp only [Act.put, List.setIfInBounds_toArray, List.set_cons_zero, List.set_cons_succ]
  refine wpAnyH_take (i := 11) (oi := ⟨_, _, _, _, _, _⟩) (v := ?v10) rfl (by kernel_rfl) (by kernel_rfl) (by kernel_rfl) (fun _ _ _ h => h) ?y10 hS ?_
  case y10 => first | (refine Or.inr ⟨by rfl, ?_⟩; with_reducible rfl) | (refine Or.inl ⟨by rfl, ?_⟩; intro wS hSw; obtain ⟨⟨a0, a1, a2, a3, -⟩, -⟩ := seven_box (H.out.later hSw).blk; go_simp; try with_reducible rfl)
  simp only [Act.put, List.setIfInBounds_toArray, List.set_cons_zero, List.set_cons_succ]
  refine wpAnyH_take (i := 12) (oi := ⟨_, _, _, _, _, _⟩) (v := ?v11) rfl (by kernel_rfl) (by kernel_rfl) (by kernel_rfl) (fun _ _ _ h => h) ?y11 hS ?_
  case y11 => first | (refine Or.inr ⟨by rfl, ?_⟩; with_reducible rfl) | (refine Or.inl ⟨by rfl, ?_⟩; intro wS hSw; obtain ⟨⟨a0, a1, a2, a3, -⟩, -⟩ := seven_box (H.out.later hSw).blk; go_simp; try with_reducible rfl)
  simp only [Act.put, List.setIfInBounds_toArray, List.set_cons_zero, List.set_cons_succ]
  refine wpAnyH_take (i := 13) (oi := ⟨_, _, _, _, _, _⟩) (v := ?v12) rfl (by kernel_rfl) (by kernel_rfl) (by kernel_rfl) (fun _ _ _ h => h) ?y12 hS ?_
  case y12 => first | (refine Or.inr ⟨by rfl, ?_⟩; with_reducible rfl) | (refine Or.inl ⟨by rfl, ?_⟩; intro wS hSw; obtain ⟨⟨a0, a1, a2, a3, -⟩, -⟩ := seven_box (H.out.later hSw).blk; go_simp; try with_reducible rfl)
  simp only [Act.put, List.setIfInBounds_toArray, List.set_cons_zero, List.set_cons_succ]
  refine wpAnyH_take (i := 15) (oi := ⟨_, _, _, _, _, _⟩) (v := ?v13) rfl (by kernel_rfl) (by kernel_rfl) (by kernel_rfl) (fun _ _ _ h => h) ?y13 hS ?_
  case y13 => first | (refine Or.inr ⟨by rfl, ?_⟩; with_reducible rfl) | (refine Or.inl ⟨by rfl, ?_⟩; intro wS hSw; obtain ⟨⟨a0, a1, a2, a3, -⟩, -⟩ := seven_box (H.out.later hSw).blk; go_simp; try with_reducible rfl)
  simp only [Act.put, List.setIfInBounds_toArray, List.set_cons_zero, List.set_cons_succ]
  refine wpAnyH_take (i := 16) (oi := ⟨_, _, _, _, _, _⟩) (v := ?v14) rfl (by kernel_rfl) (by kernel_rfl) (by kernel_rfl) (fun _ _ _ h => h) ?y14 hS ?_
  case y14 => first | (refine Or.inr ⟨by rfl, ?_⟩; with_reducible rfl) | (refine Or.inl ⟨by rfl, ?_⟩; intro wS hSw; obtain ⟨⟨a0, a1, a2, a3, -⟩, -⟩ := seven_box (H.out.later hSw).blk; go_simp; try with_reducible rfl)
  simp only [Act.put, List.setIfInBounds_toArray, List.set_cons_zero, List.set_cons_succ]
  refine wpAnyH_take (i := 17) (oi := ⟨_, _, _, _, _, _⟩) (v := ?v15) rfl (by kernel_rfl) (by kernel_rfl) (by kernel_rfl) (fun _ _ _ h => h) ?y15 hS ?_
  case y15 => first | (refine Or.inr ⟨by rfl, ?_⟩; with_reducible rfl) | (refine Or.inl ⟨by rfl, ?_⟩; intro wS hSw; obtain ⟨⟨a0, a1, a2, a3, -⟩, -⟩ := seven_box (H.out.later hSw).blk; go_simp; try with_reducible rfl)
  simp only [Act.put, List.setIfInBounds_toArray, List.set_cons_zero, List.set_cons_succ]
  refine wpAnyH_take (i := 18) (oi := ⟨_, _, _, _, _, _⟩) (v := ?v16) rfl (by kernel_rfl) (by kernel_rfl) (by kernel_rfl) (fun _ _ _ h => h) ?y16 hS ?_
  case y16 => first | (refine Or.inr ⟨by rfl, ?_⟩; with_reducible rfl) | (refine Or.inl ⟨by rfl, ?_⟩; intro wS hSw; obtain ⟨⟨a0, a1, a2, a3, -⟩, -⟩ := seven_box (H.out.later hSw).blk; go_simp; try with_reducible rfl)
  simp only [Act.put, List.setIfInBounds_toArray, List.set_cons_zero, List.set_cons_succ]
  refine wpAnyH_ready (rs := [4]) (by kernel_rfl) (by simp) ?_
  refine AllReadyH.cons (o := ⟨_, _, _, _, _, _⟩) rfl (fun K hK => ?_) AllReadyH.nil
  go_simp
  refine (@quCopy (inw nm km em) _ _ _ _ u.drew (H.out.later hS).qu).mono ?_
  rintro e w1 ⟨o, rfl, hq, hb1⟩
  go_wp2_with fail
  have hS1 := hS.trans (hb1.mono hS.size)
  refine hK.out _ _ hS1 (fun hSd => ?_)
  clear hSd hK K
  try simp only [Act.put, List.setIfInBounds_toArray, List.set_cons_zero, List.set_cons_succ]
  refine wpAnyH_ready (rs := [9]) (by kernel_rfl) (by simp) ?_
  refine AllReadyH.cons (o := ⟨_, _, _, _, _, _⟩) rfl (fun K hK => ?_) AllReadyH.nil
  go_simp
  refine (cloneN (H.out.later hS1).names).mono ?_
  rintro e w2 ⟨rfl, hm2, hb2⟩
  go_wp2_with fail
  have hS2 := hS1.trans (hb2.mono hS1.size)
  refine hK.out _ _ hS2 (fun hSd => ?_)
  clear hSd hK K
  try simp only [Act.put, List.setIfInBounds_toArray, List.set_cons_zero, List.set_cons_succ]
  refine wpAnyH_ready (rs := [14]) (by kernel_rfl) (by simp) ?_
  refine AllReadyH.cons (o := ⟨_, _, _, _, _, _⟩) rfl (fun K hK => ?_) AllReadyH.nil
  go_simp
  refine (cloneK (H.out.later hS2).keys).mono ?_
  rintro e w3 ⟨rfl, hm3, hb3⟩
  go_wp2_with fail
  have hS3 := hS2.trans (hb3.mono hS2.size)
  refine hK.out _ _ hS3 (fun hSd => ?_)
  clear hSd hK K
  try simp only [Act.put, List.setIfInBounds_toArray, List.set_cons_zero, List.set_cons_succ]
  have hsz1 := hb1.size
  have hsz2 := hb2.size
  have hsz0 : w.heap.size ≤ u.drew.heap.size := hS.size
  have hon := @Qu.lt noWatch _ _ _ _ _ hq
  have hob := @Qu.base noWatch _ _ _ _ _ hq
  have hlt2 := hm2.lt
  have HE := Lib.hid (show LnGot w.heap.size w3 o w1.heap.size w2.heap.size next L from ⟨fun m2 hm => Qu.widen hq (hb2.trans (hb3.mono hsz2)) hsz0 (@inw noWatch w1.heap.size w2.heap.size m2) (fun k hk => by rcases hk with hk | hk | hk | hk; exact hk.elim; exact .inr (.inl (by omega)); exact .inr (.inl (by omega)); exact .inr (.inr (by omega))) (by show max 0 _ ≤ _; have := hm3.lt; omega), hm2.later hb3, hm3, hon, hlt2, Nat.le_trans hsz0 hob⟩)
  have HX3 := Lib.hid ((hb3.block _ (by have := lt_of_block HX.out; have h5 : u.drew.heap.size = u.heap.size := rfl; omega)).trans ((hb2.block _ (by have := lt_of_block HX.out; have h5 : u.drew.heap.size = u.heap.size := rfl; omega)).trans ((hb1.block _ (lt_of_block HX.out)).trans (show u.drew.heap[X]? = _ from HX.out))))
  have HS3 := Lib.hid hS3
  obtain ⟨a, ha⟩ : ∃ a, a = w1.heap.size := ⟨_, rfl⟩
  obtain ⟨b, hb⟩ : ∃ b, b = w2.heap.size := ⟨_, rfl⟩
  rw [← ha, ← hb] at HE
  rw [← ha, ← hb]
  clear hq hm2 hm3 hb1 hb2 hb3 hsz1 hsz2 hsz0 hon hob hlt2 ha hb hS hS1 hS2
  refine wpAnyH_take (i := 19) (oi := ⟨_, _, _, _, _, _⟩) (v := ?v17) rfl (by kernel_rfl) (by kernel_rfl) (by kernel_rfl) (fun _ _ _ h => h) ?y17 hS3 ?_
  case y17 => first | (refine Or.inr ⟨by rfl, ?_⟩; with_reducible rfl) | (refine Or.inl ⟨by rfl, ?_⟩; intro wS hSw; obtain ⟨⟨a0, a1, a2, a3, -⟩, -⟩ := seven_box (H.out.later hSw).blk; go_simp; try with_reducible rfl)
  simp only [Act.put, List.setIfInBounds_toArray, List.set_cons_zero, List.set_cons_succ]
  refine wpAnyH_ready (rs := [20]) (by kernel_rfl) (by simp) ?_
  refine AllReadyH.cons (o := ⟨_, _, _, _, _, _⟩) rfl (fun K hK => ?_) AllReadyH.nil
  have hx := HX3.out
  have x0 := (block_cell' hx 0).1
  have x1 := (block_cell' hx 1).1
  have x2 := (block_cell' hx 2).1
  have x3 := (block_cell' hx 3).1
  have f0 := (block_cell' hx 0).2
  have f1 := (block_cell' hx 1).2
  have f2 := (block_cell' hx 2).2
  have f3 := (block_cell' hx 3).2
  simp only [List.getElem?_toArray, List.getElem?_cons_zero, List.getElem?_cons_succ] at x0 x1 x2 x3
  go_simp
  have hk := ((((Keeps.refl (fun k => k = X) w3).setCell (p := ⟨X, 0, none⟩) rfl (.pointer (some ⟨o, 0, none⟩))).setCell (p := ⟨X, 1, none⟩) rfl (.map (some a))).setCell (p := ⟨X, 2, none⟩) rfl (.map (some b))).setCell (p := ⟨X, 3, none⟩) rfl (.int .i64 next)
  have hbx := HS3.out.trans (hk.below HS3.out.size (fun k e => by have := HXe.out; omega))
  refine hK.out _ _ hbx (fun hSd => ?_)
  clear hSd hK K x0 x1 x2 x3 f0 f1 f2 f3
  try simp only [Act.put, List.setIfInBounds_toArray, List.set_cons_zero, List.set_cons_succ]
  refine wpAnyH_done (by kernel_rfl) ?_ _
  have h4 := block_setCell' (k := 3) (u := .int .i64 next) (block_setCell' (k := 2) (u := .map (some b)) (block_setCell' (k := 1) (u := .map (some a)) (block_setCell' (k := 0) (u := .pointer (some ⟨o, 0, none⟩)) hx)))
  have q0 := (block_cell' h4 0).1
  have q1 := (block_cell' h4 1).1
  have q2 := (block_cell' h4 2).1
  have q3 := (block_cell' h4 3).1
  simp at q0 q1 q2 q3
  have hl := HE.out
  have hno := fun m2 hm => @Qu.qblk (@inw noWatch a b m2) _ _ _ _ _ (hl.qu m2 hm)
  have HG := Lib.hid (show LnGot w.heap.size _ o a b next L from ⟨fun m2 hm => @Qu.keepsW (@inw noWatch a b m2) _ _ _ _ _ _ _ (hl.qu m2 hm) hk (fun k e => by subst e; exact ⟨fun e => by obtain ⟨cs, h5⟩ := hno m2 hm; rw [← e, hx] at h5; simp at h5, .inr ⟨_, _, _, hx, by decide, by decide⟩⟩), hl.names.keeps hk (fun e => by obtain ⟨es, ck, h5⟩ := hl.names.blk; rw [e, hx] at h5; simp at h5), hl.keys.keeps hk (fun e => by obtain ⟨es, ck, h5⟩ := hl.keys.blk; rw [e, hx] at h5; simp at h5), hl.on, hl.nk, hl.bo⟩)
  have HR := Lib.hid hbx
  clear hk hbx hx h4 hl hno hS3
  go_wp2
  exact bodyPost_ret (v := .agg #[.pointer (some ⟨o, 0, none⟩), .map (some a), .map (some b), .int .i64 next]) (by simp [results, Tryz.f39, go_sem, q0, q1, q2, q3]) rfl ⟨o, a, b, rfl, HG.out, HR.out⟩
end Go.Proofs.YtpchjpmkkiopiaaGreat
