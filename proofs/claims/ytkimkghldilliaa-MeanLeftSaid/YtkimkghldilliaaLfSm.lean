import Derived.Test.YtkimkghldilliaaLfRm
namespace Go.Proofs.Ytkimkghldilliaa
open Go.RowKit Go.Lib

theorem map_sk_mv (n : Int) {A B : List Nd} (h : A.map sk = B.map sk) : (A.map (mv n)).map sk = (B.map (mv n)).map sk := by
  have h1 : ∀ L : List Nd, (L.map (mv n)).map sk = (L.map sk).map (mv n) := fun L => by simp [List.map_map, Function.comp_def, sk, mv]
  rw [h1, h1, h]
/-- the same but for where kids lie, body by body. -/
def SameL : List (List Nd) → List (List Nd) → Prop
  | [], [] => True
  | A :: r, B :: s => A.map sk = B.map sk ∧ SameL r s
  | _, _ => False
theorem ofT_sk : ∀ (m : Nat) (Ls Ms : List (List Nd)), SameL Ls Ms → (ofT m Ls).map sk = (ofT m Ms).map sk ∧ ofK m Ls = ofK m Ms ∧ Ls.length = Ms.length
  | m, [], [], _ => ⟨rfl, rfl, rfl⟩
  | m, A :: r, B :: s, h => by
    have hl : A.length = B.length := by simpa using congrArg List.length h.1
    obtain ⟨h1, h2, h3⟩ := ofT_sk (m + A.length) r s h.2
    refine ⟨?_, ?_, by simp [h3]⟩
    · simp only [ofT, List.map_append]
      rw [map_sk_mv _ h.1, h1, hl]
    · simp only [ofK]
      rw [h2, hl]
  | m, [], B :: s, h => h.elim
  | m, A :: r, [], h => h.elim
theorem gramR_sk : ∀ (k m : Nat) (Ls Ms : List (List Nd)), SameL Ls Ms → gramR k m Ls = gramR k m Ms
  | k, m, [], [], _ => rfl
  | k, m, A :: r, B :: s, h => by
    have hl : A.length = B.length := by simpa using congrArg List.length h.1
    simp only [gramR, hl, gramR_sk (k + 1) (m + B.length) r s h.2]
  | k, m, [], B :: s, h => h.elim
  | k, m, A :: r, [], h => h.elim
theorem ofN_sk (kd : Int) {Ls Ms : List (List Nd)} (h : SameL Ls Ms) : (ofN kd Ls).map sk = (ofN kd Ms).map sk := by
  obtain ⟨h1, h2, -⟩ := ofT_sk 1 Ls Ms h
  simp only [ofN, List.map_cons, h1, h2]
/-- a body is small. -/
def smallB (L : List Nd) : Bool := decide (0 < L.length) && decide (L.length ≤ 60) && L.all (fun x => decide (x.kids.length ≤ 100) && x.kids.all (fun q => decide (0 ≤ q) && decide (q ≤ 1000)))
theorem small_len {L : List Nd} (h : smallB L = true) : 0 < L.length ∧ L.length ≤ 60 := by
  unfold smallB at h
  simp only [Bool.and_eq_true, decide_eq_true_eq] at h
  exact h.1
theorem small_kids {L : List Nd} (h : smallB L = true) : ∀ x ∈ L, x.kids.length ≤ 1000 ∧ ∀ q ∈ x.kids, 0 ≤ q ∧ q ≤ 1000000 := by
  unfold smallB at h
  simp only [Bool.and_eq_true, decide_eq_true_eq, List.all_eq_true] at h
  intro x hx
  obtain ⟨h1, h2⟩ := h.2 x hx
  exact ⟨by omega, fun q hq => by have := h2 q hq; omega⟩
theorem small_sk {L M : List Nd} (h : L.map sk = M.map sk) : smallB L = smallB M := by
  have h1 : ∀ L : List Nd, smallB L = smallB (L.map sk) := fun L => by unfold smallB; rw [List.length_map, List.all_map]; rfl
  rw [h1, h1 M, h]
/-- nodes that were made. -/
def NsM (w : World) (v : Value) (L : List Nd) : Prop := ∃ N', N'.map sk = L.map sk ∧ NsOwn 0 w v N'
theorem NsM.later {w w' : World} {v : Value} {L : List Nd} (h : NsM w v L) (hb : Below w.heap.size w w') : NsM w' v L := by
  obtain ⟨N', h1, h2⟩ := h
  exact ⟨N', h1, h2.later hb⟩
theorem NsM.val {w : World} {v : Value} {L : List Nd} (h : NsM w v L) : ∃ ao n cap, v = .slice ao n cap := by
  obtain ⟨N', h1, h2⟩ := h
  obtain ⟨a, c, e⟩ := own_val h2.row
  exact ⟨a, _, c, e⟩
theorem NsM.of {w w' : World} {b : Nat} {v : Value} {L N' : List Nd} (h : N'.map sk = L.map sk) (ho : NsOwn b w v N') : NsM w v L := ⟨N', h, ho.base_le (Nat.zero_le _)⟩
theorem NsM.inn {w : World} {v : Value} {L : List Nd} (h : NsM w v L) (hs : smallB L = true) : ∃ N', N'.map sk = L.map sk ∧ NsIn w v N' ∧ smallB N' = true := by
  obtain ⟨N', h1, h2⟩ := h
  have h3 : smallB N' = true := by rw [small_sk h1]; exact hs
  exact ⟨N', h1, h2.inn (fun x hx => (small_kids h3 x hx).1), h3⟩
theorem post_sk {L M : List Nd} {w w' : World} {e : Ending} (h : NsPost L w e w') (hs : L.map sk = M.map sk) : NsPost M w e w' := by
  obtain ⟨v, N', h1, h2, h3⟩ := h
  exact ⟨v, N', h1, h2.trans hs, h3⟩
theorem chain_m (va vb : Value) (A B : List Nd) (w : World) (ha : NsM w va A) (hb : NsM w vb B) (sa : smallB A = true) (sb : smallB B = true) : Calls Try.prog 9 #[va, vb] w (NsPost (ofN 6 [A, B]) w) := by
  obtain ⟨A', h1, h2, h3⟩ := ha.inn sa
  obtain ⟨B', k1, k2, k3⟩ := hb.inn sb
  have l1 := small_len h3
  have l2 := small_len k3
  refine (chain_made va vb A' B' w h2 k2 (by omega) (fun x hx => ?_)).mono (fun e w' h => post_sk h (ofN_sk 6 ⟨h1, k1, trivial⟩))
  rcases List.mem_append.1 hx with hx | hx
  · exact (small_kids h3 x hx).2
  · exact (small_kids k3 x hx).2
theorem first_m (va vb : Value) (A B : List Nd) (w : World) (ha : NsM w va A) (hb : NsM w vb B) (sa : smallB A = true) (sb : smallB B = true) : Calls Try.prog 8 #[va, vb] w (NsPost (ofN 7 [A, B]) w) := by
  obtain ⟨A', h1, h2, h3⟩ := ha.inn sa
  obtain ⟨B', k1, k2, k3⟩ := hb.inn sb
  have l1 := small_len h3
  have l2 := small_len k3
  refine (first_made va vb A' B' w h2 k2 (by omega) (fun x hx => ?_)).mono (fun e w' h => post_sk h (ofN_sk 7 ⟨h1, k1, trivial⟩))
  rcases List.mem_append.1 hx with hx | hx
  · exact (small_kids h3 x hx).2
  · exact (small_kids k3 x hx).2
/-- many bodies that were made. -/
def AllM (w : World) : List Value → List (List Nd) → Prop
  | [], [] => True
  | v :: vs, L :: Ls => NsM w v L ∧ smallB L = true ∧ AllM w vs Ls
  | _, _ => False
theorem AllM.open {w : World} : ∀ {vs : List Value} {Ls : List (List Nd)}, AllM w vs Ls → ∃ Ms, SameL Ms Ls ∧ vs.length = Ms.length ∧ (∀ u ∈ vs, u.oneCell' = true) ∧ (∀ M ∈ Ms, smallB M = true) ∧ ∀ (i : Nat) (L : List Nd) (vi : Value), Ms[i]? = some L → vs[i]? = some vi → NsIn w vi L ∧ L.length ≤ 2000 ∧ ∀ x ∈ L, ∀ q ∈ x.kids, 0 ≤ q ∧ q ≤ 1000000
  | [], [], _ => ⟨[], trivial, rfl, by simp, by simp, by simp⟩
  | v :: vs, L :: Ls, h => by
    obtain ⟨h1, h2, h3⟩ := h
    obtain ⟨N', k1, k2, k3⟩ := h1.inn h2
    obtain ⟨a, n, c, e⟩ := h1.val
    obtain ⟨Ms, g1, g2, g3, g4, g5⟩ := AllM.open h3
    refine ⟨N' :: Ms, ⟨k1, g1⟩, by simp [g2], fun u hu => ?_, fun M hM => ?_, fun i L vi e1 e2 => ?_⟩
    · rcases List.mem_cons.1 hu with rfl | hu
      · rw [e]; rfl
      · exact g3 u hu
    · rcases List.mem_cons.1 hM with rfl | hM
      · exact k3
      · exact g4 M hM
    · match i, e1, e2 with
      | 0, e1, e2 =>
        simp only [List.getElem?_cons_zero, Option.some.injEq] at e1 e2
        subst e1
        subst e2
        exact ⟨k2, by have := small_len k3; omega, fun x hx => (small_kids k3 x hx).2⟩
      | i + 1, e1, e2 => exact g5 i L vi (by simpa using e1) (by simpa using e2)
  | [], L :: Ls, h => h.elim
  | v :: vs, [], h => h.elim
theorem sum_small : ∀ (Ms : List (List Nd)), (∀ M ∈ Ms, smallB M = true) → (Ms.map List.length).sum ≤ Ms.length * 60
  | [], _ => by simp
  | M :: r, h => by
    have h1 := sum_small r (fun x hx => h x (by simp [hx]))
    have h2 := small_len (h M (by simp))
    simp only [List.map_cons, List.sum_cons, List.length_cons, Nat.add_mul]
    omega
theorem of_m (kd : Int) (g : Nat) (vs : List Value) (Ls : List (List Nd)) (u : World) (hu : u.heap[g]? = some (.cells (List.toArray vs) 25 (0, 0))) (h : AllM u vs Ls) (hl : vs.length ≤ 20) :
    Calls Try.prog 20 #[.int .i64 kd, .slice (some ⟨g, 0, none⟩) vs.length vs.length] u (NsPost (ofN kd Ls) u) := by
  obtain ⟨Ms, h1, h2, h3, h4, h5⟩ := h.open
  have hs := sum_small Ms h4
  exact (of_made kd _ Ms u (BsIn.row hu h2 (by omega) h3 h5) (by omega) (by omega)).mono (fun e w' h => post_sk h (ofN_sk kd h1))
theorem gram_m (g : Nat) (vs : List Value) (Ls : List (List Nd)) (u : World) (hu : u.heap[g]? = some (.cells (List.toArray vs) 25 (0, 0))) (h : AllM u vs Ls) (hl : vs.length ≤ 20) :
    Calls Try.prog 7 #[.slice (some ⟨g, 0, none⟩) vs.length vs.length] u (GrPost Ls u) := by
  obtain ⟨Ms, h1, h2, h3, h4, h5⟩ := h.open
  have hs := sum_small Ms h4
  refine (gram_made _ Ms u (BsIn.row hu h2 (by omega) h3 h5) (by omega) (by omega) (fun L hL e => by have := small_len (h4 L hL); rw [e] at this; simp at this)).mono (fun e w' hp => ?_)
  obtain ⟨rv, nv, N', q1, q2, q3, q4, q5⟩ := hp
  have h6 := (ofT_sk 0 Ms Ls h1).2.2
  exact ⟨rv, nv, N', q1, q2.trans (ofT_sk 0 Ms Ls h1).1, by rw [← h6, ← gramR_sk 0 0 Ms Ls h1]; exact q3, q4, q5⟩
set_option maxRecDepth 100000 in
set_option maxHeartbeats 1000000 in
theorem leaf_made (k : Int) (w : World) : Calls Try.prog 26 #[.int .i64 k] w (NsPost [bare k []] w) := by
  have hn := one_new w (.cells #[.int .i64 k, .int .u64 0, .int .u64 0, .int .u64 0, .int .u64 0, .string ⟨#[]⟩, .int .i64 0, .int .i64 0, .slice none 0 0] 64 (0, 0))
  have HN := Lib.hid hn
  clear hn
  go_enter Try.func26, Try.ntmps26
  go_wp2
  go_ret
  exact ⟨_, [bare k []], rfl, rfl, NsOwn.one rfl rfl HN.out.2, HN.out.1⟩
set_option maxRecDepth 100000 in
set_option maxHeartbeats 2000000 in
theorem in_m (kd : Int) (va : Value) (A : List Nd) (w : World) (ha : NsM w va A) (sa : smallB A = true) :
    Calls Try.prog 27 #[.int .i64 kd, va] w (NsPost (ofN kd [A]) w) := by
  obtain ⟨aa, al, ac, rfl⟩ := ha.val
  have HN := Lib.hid (one_new w (.cells #[.slice aa al ac] 25 (0, 0)))
  have HOf := Lib.hid (fun u (hu : Below w.heap.size w u ∧ u.heap[w.heap.size]? = some (.cells #[.slice aa al ac] 25 (0, 0))) => of_m kd w.heap.size [.slice aa al ac] [A] u hu.2 ⟨ha.later hu.1, sa, trivial⟩ (by simp))
  clear ha sa
  go_enter Try.func27, Try.ntmps27
  go_wp2_with fail
  refine (HOf.out _ HN.out).mono ?_
  rintro e z ⟨v', N', rfl, hm, hO, hB⟩
  have HM := Lib.hid (And.intro hm (And.intro hO hB))
  clear hm hO hB HOf
  obtain ⟨a3, c3, rfl⟩ := own_val HM.out.2.1.row
  go_wp2
  go_ret
  exact ⟨_, N', rfl, HM.out.1, HM.out.2.1.base_le HN.out.1.size, HN.out.1.trans (HM.out.2.2.mono HN.out.1.size)⟩
set_option maxRecDepth 100000 in
set_option maxHeartbeats 2000000 in
theorem infix_m (r l q : Int) (s : ByteArray) (w : World) :
    Calls Try.prog 25 #[.int .i64 r, .int .i64 l, .string s, .int .i64 q] w (NsPost (ofN 6 [[callN r l], [wordN s], [callN r q]]) w) := by
  go_enter Try.func25, Try.ntmps25
  go_wp2_with fail
  refine (call_made r l w).mono ?_
  rintro e w1 ⟨v1, N1, rfl, hm, hO, hB⟩
  have M1 := Lib.hid (show NsM w1 v1 [callN r l] from NsM.of (w' := w) hm hO)
  have B1 := Lib.hid hB
  clear hm hO hB
  obtain ⟨a1, n1, c1, rfl⟩ := M1.out.val
  go_wp2_with fail
  refine (word_made s w1).mono ?_
  rintro e w2 ⟨v2, N2, rfl, hm, hO, hB⟩
  have M2 := Lib.hid (show NsM w2 v2 [wordN s] from NsM.of (w' := w) hm hO)
  have M1' := Lib.hid (M1.out.later hB)
  have B2 := Lib.hid (B1.out.trans (hB.mono B1.out.size))
  clear hm hO hB M1 B1
  obtain ⟨a2, n2, c2, rfl⟩ := M2.out.val
  go_wp2_with fail
  refine (call_made r q w2).mono ?_
  rintro e w3 ⟨v3, N3, rfl, hm, hO, hB⟩
  have M3 := Lib.hid (show NsM w3 v3 [callN r q] from NsM.of (w' := w) hm hO)
  have M1 := Lib.hid (M1'.out.later hB)
  have M22 := Lib.hid (M2.out.later hB)
  have B3 := Lib.hid (B2.out.trans (hB.mono B2.out.size))
  clear hm hO hB M1' M2 B2
  obtain ⟨a3, n3, c3, rfl⟩ := M3.out.val
  have HN := Lib.hid (one_new w3 (.cells #[.slice a1 n1 c1, .slice a2 n2 c2, .slice a3 n3 c3] 25 (0, 0)))
  go_wp2_with fail
  refine (of_m 6 w3.heap.size [.slice a1 n1 c1, .slice a2 n2 c2, .slice a3 n3 c3] [[callN r l], [wordN s], [callN r q]] _ HN.out.2 ⟨M1.out.later HN.out.1, rfl, M22.out.later HN.out.1, rfl, M3.out.later HN.out.1, rfl, trivial⟩ (by simp)).mono ?_
  rintro e z ⟨v', N', rfl, hm, hO, hB⟩
  have HM := Lib.hid (And.intro hm (And.intro hO hB))
  clear hm hO hB
  obtain ⟨a4, c4, rfl⟩ := own_val HM.out.2.1.row
  go_wp2
  go_ret
  have HB := B3.out.trans (HN.out.1.mono B3.out.size)
  exact ⟨_, N', rfl, HM.out.1, HM.out.2.1.base_le HB.size, HB.trans (HM.out.2.2.mono HB.size)⟩
def pickN (x n : Int) : Int := if x.tmod n < 0 then x.tmod n + n else x.tmod n
theorem pickN_range (x n : Int) (hn : 0 < n) : 0 ≤ pickN x n ∧ pickN x n < n := by
  have h1 := Int.tmod_lt_of_pos x hn
  have h2 := Int.lt_tmod_of_pos x hn
  unfold pickN
  split <;> omega
set_option maxHeartbeats 1000000 in
theorem pick_any (w : World) (x n : Int) (hn : 0 < n) (hn2 : n ≤ 1000000) :
    Calls Try.prog 24 #[.int .i64 x, .int .i64 n] w fun e w' => e = .returned (.int .i64 (pickN x n)) ∧ w = w' := by
  have h1 := Int.tmod_lt_of_pos x hn
  have h2 := Int.lt_tmod_of_pos x hn
  have hw : IntKind.i64.wrap (x.tmod n) = x.tmod n := IntWalk.i64_in _ (by omega)
  have hz : (n == 0) = false := by simp; omega
  have hz2 : decide (n = 0) = false := by simp; omega
  have hz3 : ¬ n < 1 := by omega
  by_cases h0 : x.tmod n < 0
  · have hw2 : IntKind.i64.wrap (x.tmod n + n) = x.tmod n + n := IntWalk.i64_in _ (by omega)
    have hp : pickN x n = x.tmod n + n := if_pos h0
    go_enter Try.func24, Try.ntmps24
    go_wp2
    go_ret
    first | exact ⟨rfl, rfl⟩ | exact ⟨congrArg (fun z => Ending.returned (.int .i64 z)) hp.symm, rfl⟩
  · have hp : pickN x n = x.tmod n := if_neg h0
    go_enter Try.func24, Try.ntmps24
    go_wp2
    go_ret
    first | exact ⟨rfl, rfl⟩ | exact ⟨congrArg (fun z => Ending.returned (.int .i64 z)) hp.symm, rfl⟩
end Go.Proofs.Ytkimkghldilliaa
namespace Go.Proofs.Ytkimkghldilliaa
open Go.RowKit Go.Lib

/-- bytes as values. -/
def byv (l : List UInt8) : List Value := l.map fun c => .int .u8 (c.toNat : Int)
theorem bytes_block {w : World} {b : Nat} {t : TypeId} {l : List UInt8} (h : w.heap[b]? = some (.cells (List.toArray (byv l)) t (0, 0))) (hl : l.length ≤ 1000000) : BytesAt w (.slice (some ⟨b, 0, none⟩) l.length l.length) l := by
  refine ⟨_, b, 0, l.length, rfl, Nat.le_refl _, by unfold maxLen; omega, (fun h => by cases h), fun _ => rfl, fun k hk => ?_⟩
  rw [Nat.zero_add, (block_cell' h k).1]
  simp [byv, hk]
/-- nodes of small numbers, to be found by reckoning. -/
def ndB (x : Nd) : Bool := decide (x.kids.length ≤ 1000) && decide (-9223372036854775808 ≤ x.kind ∧ x.kind ≤ 9223372036854775807) && decide (0 ≤ x.c0 ∧ x.c0 < 18446744073709551616) && decide (0 ≤ x.c1 ∧ x.c1 < 18446744073709551616) && decide (0 ≤ x.c2 ∧ x.c2 < 18446744073709551616) && decide (0 ≤ x.c3 ∧ x.c3 < 18446744073709551616)
theorem ndB_P {x : Nd} (h : ndB x = true) (ht : x.text.size ≤ 1000) : NdP x := by
  unfold ndB at h
  simp only [Bool.and_eq_true, decide_eq_true_eq] at h
  obtain ⟨⟨⟨⟨⟨h1, h2⟩, h3⟩, h4⟩, h5⟩, h6⟩ := h
  exact ⟨h1, ht, wf64 h2, h3, h4, h5, h6⟩
theorem match_made {b : Nat} {rv nv wv : Value} {R : List Ru} {N P : List Nd} {W : List UInt8} {rule lev : Int} {p T n : Nat} {ru : Ru} {r : Fo} {st' : Ss} (w : World)
    (hr : w.ownsRow b 56 2 rv n (R.flatMap ruc)) (hn : NsOwn b w nv N) (hnl : n = R.length) (hm : N.map sk = P.map sk) (hp : ∀ x ∈ P, NdP x) (hw : BytesAt w wv W) (hR : grRight R P = true) (hW : W.length ≤ 2048)
    (h0 : 0 ≤ rule) (hru : R[rule.toNat]? = some ru) (hl : 0 ≤ lev ∧ lev ≤ 99) (hpl : p ≤ W.length) (hT : T ≤ 1000000000)
    (he : freshE (ev false R P W T) false [] rule lev p ru.body.toNat (T + 1) ⟨T, false⟩ = some (r, st')) :
    Calls Try.prog 12 #[.agg #[rv, nv], wv, .int .i64 rule, .int .i64 lev, .int .i64 p, .int .i64 T] w (MatchP w r st' T) := by
  subst hnl
  exact mMatch_go w (gr_ok hr hn hm hp) hw ((right_sk hm).trans hR) hW h0 hru hl hpl hT (by rw [ev_sk hm]; exact he)
theorem match_full {w w' : World} {r : Fo} {s : Ss} {T : Nat} {e : Ending} (h : MatchP w r s T e w') (hs : s.over = true) : (∃ tv, e = .returned (.tuple #[.agg #[.bool false, .int .i64 0, .int .i64 0, tv], .int .i64 0, .int .i64 12]) ∧ TwIn w' tv []) ∧ Below w.heap.size w w' := by
  obtain ⟨⟨tv, h1, h2⟩, h3⟩ := h
  refine ⟨⟨tv, ?_, ?_⟩, h3⟩
  · rw [h1]
    simp [aIs, aEn, aFar, aSp, aErr, hs]
  · simpa [aTree, hs] using h2
end Go.Proofs.Ytkimkghldilliaa
namespace Go.Proofs.Ytkimkghldilliaa
open Go.RowKit Go.Lib

theorem toList_size (x : ByteArray) : x.data.toList.length = x.size := by simp
/-- where x ends behind x. -/
theorem many_front (t : List UInt8) (W : List UInt8) (ht : 0 < t.length) : ∀ (d e : Nat), W.length - e ≤ d → e ≤ W.length → ∃ m, (∀ i, i < m → frontL t (W.drop (e + i * t.length)) = t.length) ∧ frontL t (W.drop (e + m * t.length)) < t.length ∧ e + m * t.length ≤ W.length
  | d, e, hd, he => by
    by_cases h : frontL t (W.drop e) = t.length
    · have h2 := (frontL_le t (W.drop e)).2
      rw [h, List.length_drop] at h2
      match d, hd with
      | 0, hd => omega
      | d + 1, hd =>
        obtain ⟨m, h3, h4, h5⟩ := many_front t W ht d (e + t.length) (by omega) (by omega)
        have h9 : ∀ i, e + t.length + i * t.length = e + (i + 1) * t.length := fun i => by rw [Nat.add_mul]; omega
        refine ⟨m + 1, fun i hi => ?_, by rw [← h9]; exact h4, by rw [← h9]; exact h5⟩
        match i, hi with
        | 0, _ => simpa using h
        | i + 1, hi => rw [← h9]; exact h3 i (by omega)
    · have h2 := (frontL_le t (W.drop e)).1
      exact ⟨0, fun i hi => absurd hi (by omega), by rw [Nat.zero_mul, Nat.add_zero]; omega, by rw [Nat.zero_mul, Nat.add_zero]; exact he⟩
theorem gH_roots (p X : Nat) : ∀ (m : Nat) (h : Ht), (gH p X m h).roots = (if m = 0 then h.roots else 1) ∧ (gH p X m h).far = (if m = 0 then h.far else -1)
  | 0, h => ⟨rfl, rfl⟩
  | m + 1, h => by
    have h1 := gH_roots p X m ⟨h.en + X, -1, 1, seedTw p h.en h.forest⟩
    rw [gH, h1.1, h1.2]
    simp
theorem text_hit {W t : List UInt8} {p : Nat} (h : frontL t (W.drop p) = t.length) : textAt W t p = .hit (upTo (p + t.length)) := by
  rw [textAt_front, if_pos h]
theorem text_miss {W t : List UInt8} {p : Nat} (h : frontL t (W.drop p) ≠ t.length) : textAt W t p = .miss ((p + frontL t (W.drop p) : Nat) : Int) := by
  rw [textAt_front, if_neg h]
theorem leftR_right (x y : ByteArray) (hx : 1 ≤ x.size ∧ x.size ≤ 64) (hy : 1 ≤ y.size ∧ y.size ≤ 64) : grRight leftR (leftN x y) = true := by
  have h1 : ∀ t : ByteArray, 1 ≤ t.size ∧ t.size ≤ 64 → nodeOk 1 (wordN t) = true := fun t ht => by
    have h2 : nodeOk 1 (wordN t) = ndText (wordN t) := rfl
    have h3 : ndBare { wordN t with text := ⟨#[]⟩ } = true := by kernel_rfl
    rw [h2, ndText, h3]
    have a1 : decide (0 < (wordN t).text.size) = true := decide_eq_true ht.1
    have a2 : decide ((wordN t).text.size ≤ 64) = true := decide_eq_true ht.2
    rw [a1, a2]
    rfl
  have h2 : (leftN x y).all (nodeOk 1) = true := by
    have e1 : nodeOk 1 (bare 7 [1, 4]) = true := by kernel_rfl
    have e2 : nodeOk 1 (bare 6 [2, 3]) = true := by kernel_rfl
    have e3 : nodeOk 1 (callN 0 0) = true := by kernel_rfl
    simp [leftN, e1, e2, e3, h1 x hx, h1 y hy]
  have h4 : leftR.length = 1 := rfl
  unfold grRight
  rw [h4, h2]
  rfl
theorem leftN_nd (x y : ByteArray) (hx : x.size ≤ 64) (hy : y.size ≤ 64) : ∀ n ∈ leftN x y, NdP n := by
  intro n hn
  simp only [leftN, List.mem_cons, List.not_mem_nil, or_false] at hn
  have hz : (⟨#[]⟩ : ByteArray).size = 0 := rfl
  rcases hn with rfl | rfl | rfl | rfl | rfl
  · exact ndB_P (by kernel_rfl) (by show (⟨#[]⟩ : ByteArray).size ≤ 1000; omega)
  · exact ndB_P (by kernel_rfl) (by show (⟨#[]⟩ : ByteArray).size ≤ 1000; omega)
  · exact ndB_P (by kernel_rfl) (by show (⟨#[]⟩ : ByteArray).size ≤ 1000; omega)
  · exact ndB_P (by kernel_rfl) (by show x.size ≤ 1000; omega)
  · exact ndB_P (by kernel_rfl) (by show y.size ≤ 1000; omega)
section
variable {x y : ByteArray} {W : List UInt8} {p : Nat}
theorem plain_miss {T : Nat} (lev : Int) (hT : 18 ≤ T) (hf : frontL y.data.toList (W.drop p) < y.size) : freshE (ev false leftR (leftN x y) W T) false [] 0 lev p 0 (T + 1) ⟨T, false⟩ = some (.miss ((p + frontL y.data.toList (W.drop p) : Nat) : Int), ⟨T - 4, false⟩) := by
  have h := left_miss x y W (T - 3) p (T - 4) (T + 1) lev _ (by omega) (text_miss (W := W) (t := y.data.toList) (p := p) (by rw [toList_size]; omega))
  rw [show T - 3 + 3 = T by omega, show T - 4 + 4 = T by omega] at h
  exact h
theorem plain_high {T : Nat} (lev : Int) (hl : 0 < lev) (hT : 18 ≤ T) (hf : frontL y.data.toList (W.drop p) = y.size) : freshE (ev false leftR (leftN x y) W T) false [] 0 lev p 0 (T + 1) ⟨T, false⟩ = some (.hit ⟨p + y.size, -1, 1, [⟨0, lev, p, ((p + y.size : Nat) : Int), 0⟩]⟩, ⟨T - 8, false⟩) := by
  have h := left_high x y W (T - 3) p (T - 8) T lev hl (p + y.size) (by have := text_hit (W := W) (t := y.data.toList) (p := p) (by rw [toList_size]; exact hf); rw [toList_size] at this; exact this)
  rw [show T - 3 + 3 = T by omega, show T - 8 + 4 + 4 = T by omega] at h
  exact h
theorem plain_zero {T : Nat} (hx : 1 ≤ x.size) (hT : T = 6 * (W.length + 3)) (hW : W.length ≤ 200) (hp : p ≤ W.length) (hf : frontL y.data.toList (W.drop p) = y.size) : ∃ m fr l, (∀ i, i < m → frontL x.data.toList (W.drop (p + y.size + i * x.size)) = x.size) ∧ frontL x.data.toList (W.drop (p + y.size + m * x.size)) = fr ∧ fr < x.size ∧ p + y.size + m * x.size ≤ W.length ∧
    freshE (ev false leftR (leftN x y) W T) false [] 0 0 p 0 (T + 1) ⟨T, false⟩ = some (.hit ⟨p + y.size + m * x.size, ((p + y.size + m * x.size + fr : Nat) : Int), 1, chain p (p + y.size) x.size (m + 1)⟩, ⟨l, false⟩) := by
  have h0 : p + y.size ≤ W.length := by
    have := (frontL_le y.data.toList (W.drop p)).2
    rw [hf, List.length_drop] at this
    omega
  obtain ⟨m, h1, h2, h3⟩ := many_front x.data.toList W (by rw [toList_size]; omega) W.length (p + y.size) (by omega) h0
  have hX := toList_size x
  simp only [hX] at h1 h2 h3
  have hm : m ≤ W.length := by
    have : m * 1 ≤ m * x.size := Nat.mul_le_mul_left _ hx
    omega
  obtain ⟨g1, g2⟩ := gH_chain p (p + y.size) x.size (by omega) m 0 ⟨p + y.size, -1, 0, []⟩ (by rw [Nat.zero_add]; omega) (by simp) rfl
  obtain ⟨g3, g4⟩ := gH_roots p x.size m ⟨p + y.size, -1, 0, []⟩
  rw [Nat.zero_add] at g1 g2
  obtain ⟨G, hG⟩ : ∃ G, G = gH p x.size m ⟨p + y.size, -1, 0, []⟩ := ⟨_, rfl⟩
  rw [← hG] at g1 g2 g3 g4
  have g5 : G.far = -1 := by rw [g4]; split <;> rfl
  have g6 : G = ⟨p + y.size + m * x.size, -1, if m = 0 then 0 else 1, chain p (p + y.size) x.size m⟩ := by
    cases G
    simp only at g1 g2 g3 g5
    rw [g1, g2, g3, g5]
  refine ⟨m, _, T - 4 * m - 9, h1, rfl, h2, h3, ?_⟩
  have h := left_hit x y W (T - 3) p (T - 4 * m - 9) (T - m) m (p + y.size) ((p + y.size + m * x.size + frontL x.data.toList (W.drop (p + y.size + m * x.size)) : Nat) : Int) (by omega) (by rw [hX]; omega)
    (by have := text_hit (W := W) (t := y.data.toList) (p := p) (by rw [toList_size]; exact hf); rw [toList_size] at this; exact this) (by unfold lim; omega)
    (fun i hi => by rw [hX]; have := text_hit (W := W) (t := x.data.toList) (p := p + y.size + i * x.size) (by rw [hX]; exact h1 i hi); rw [hX] at this; exact this)
    (by rw [hX]; exact text_miss (by rw [hX]; omega)) ⟨p + y.size + m * x.size, ((p + y.size + m * x.size + frontL x.data.toList (W.drop (p + y.size + m * x.size)) : Nat) : Int), 1, chain p (p + y.size) x.size (m + 1)⟩ (by
      rw [hX, ← hG, g6]
      have hlen := chain_len p (p + y.size) x.size m
      unfold Ht.tried Ht.called
      simp only
      rw [if_pos (by rw [hlen]; unfold lim; omega)]
      have hmax : max (-1 : Int) ((p + y.size + m * x.size + frontL x.data.toList (W.drop (p + y.size + m * x.size)) : Nat) : Int) = ((p + y.size + m * x.size + frontL x.data.toList (W.drop (p + y.size + m * x.size)) : Nat) : Int) := by omega
      rw [hmax]
      by_cases hm0 : m = 0
      · subst hm0; simp [chain]
      · simp [chain, hm0])
  rw [show T - 3 + 3 = T by omega, show T - m + m + 1 = T + 1 by omega, show T - 4 * m - 9 + 4 * m + 5 + 4 = T by omega] at h
  exact h
end
/-- the twigs that are told. -/
def LeftT (p e0 X m : Nat) (lev : Int) (T : List Tw) : Prop := T.length = m + 1 ∧ ∀ i (hi : i < T.length), T[i].rule = 0 ∧ T[i].lev = (if i = 0 then lev else 0) ∧ T[i].fr = p ∧ T[i].to = ((e0 + (m - i) * X : Nat) : Int) ∧ T[i].kids = if i = m then 0 else 1
theorem chain_leftT (p e0 X m : Nat) : LeftT p e0 X m 0 (chain p e0 X (m + 1)) := by
  refine ⟨chain_len p e0 X (m + 1), fun i hi => ?_⟩
  have hl := chain_len p e0 X (m + 1)
  have h1 := chain_at p e0 X (m + 1) i (by omega)
  have h2 : atT (chain p e0 X (m + 1)) i = (chain p e0 X (m + 1))[i] := by simp [atT, hi]
  rw [h2] at h1
  rw [h1]
  simp only [Nat.add_sub_cancel]
  refine ⟨trivial, by split <;> rfl, trivial, trivial, ?_⟩
  by_cases h : i = m
  · subst h; simp
  · rw [if_neg (by omega), if_neg h]
theorem one_leftT (p e0 X : Nat) (lev : Int) : LeftT p e0 X 0 lev [⟨0, lev, p, e0, 0⟩] := by
  refine ⟨rfl, fun i hi => ?_⟩
  simp only [List.length_singleton] at hi
  obtain rfl : i = 0 := by omega
  simp
end Go.Proofs.Ytkimkghldilliaa
