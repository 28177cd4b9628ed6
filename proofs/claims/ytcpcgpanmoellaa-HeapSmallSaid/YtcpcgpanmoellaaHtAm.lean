import Derived.Test.YtcpcgpanmoellaaHsDm
import Derived.Test.YtcpcgpanmoellaaShS
import Derived.RangeFuncBox
import Derived.Deep.RegionHeld
import Derived.Test.YtcpcgpanmoellaaHrJ
namespace Go.Proofs.Ytcpcgpanmoellaa
open Go.RowKit Go.Lib Go.Sort Go.Shelf

theorem sort_none (ao : Option Addr) (cap : Nat) (fv : Value) (w : World) :
    Calls Try.prog 47 #[.slice ao 0 cap, fv] w fun e w' => e = .returned (.tuple #[]) ∧ w' = w := by
  have h := AnyF.slices_SortFunc_none Try.sortE ao cap fv w
  change Calls Try.prog 47 _ _ _ at h
  exact h
theorem sort_own {base : Nat} {v : Value} {L : List En} (w : World) (hle : L.length ≤ 100000) (h : w.ownsRow base 67 3 v L.length (L.flatMap enc)) :
    Calls Try.prog 47 #[v, .func (.func 34) #[] #[]] w fun e w' => e = .returned (.tuple #[]) ∧
      ∃ S : List En, S.Perm L ∧ S.Pairwise En.le ∧ w'.ownsRow base 67 3 v L.length (S.flatMap enc) ∧ Keeps (fun k => base ≤ k) w w' := by
  by_cases h0 : 0 < L.length
  · obtain ⟨g, cap, rfl⟩ := own_shape h h0
    have hbg : base ≤ g := (h.lt g rfl).1
    have hgl : g < w.heap.size := (h.lt g rfl).2
    have eg : ∀ args w, (callFunc 34 args).run Try.prog w = .ok (.enter 34 args) w := enters_of Try.func34 (by kernel_rfl) rfl
    have hcon := AnyQ.slices_SortFunc Try.sortE 3 Try.isAgg67 Try.sizeOf67 enc enc_len enc_one cmpE swoE 34 #[] g 0 cap L.toArray w eg (cmpLaysE g 0 L.toArray.size w) (holds_own h) hgl (by simp; omega)
    change Calls Try.prog 47 _ _ _ at hcon
    have hsz : L.toArray.size = L.length := by simp
    rw [hsz] at hcon
    refine hcon.mono ?_
    rintro e w' ⟨he, d, m, os, hp, hs, rfl⟩
    have hd : d.size = L.length := by rw [hp.1]; simp
    obtain ⟨ho, hk⟩ := own_sorted (m := m) (os := os) h hd
    refine ⟨he, d.toList, ?_, ?_, ho, Keeps.mono hk fun k _ e => by subst e; exact hbg⟩
    · have h1 := hp.2.2
      have e1 : d.extract 0 L.length = d := by rw [← hd]; simp
      have e2 : L.toArray.extract 0 L.length = L.toArray := by rw [← hsz]; simp
      rw [e1, e2] at h1
      simpa using h1
    · rw [List.pairwise_iff_getElem]
      intro i j hi hj hij
      have hi' : i < d.size := by simpa using hi
      have hj' : j < d.size := by simpa using hj
      have h1 := hs i j (Nat.zero_le _) hij (by omega)
      rw [ltE, decide_eq_false_iff_not, getElem!_pos d i hi', getElem!_pos d j hj'] at h1
      exact h1
  · have : L = [] := List.eq_nil_of_length_eq_zero (by omega)
    subst this
    obtain ⟨ao, cap, rfl⟩ := own_val h
    refine (sort_none ao cap _ w).mono ?_
    rintro e w' ⟨he, rfl⟩
    exact ⟨he, [], List.Perm.refl _, List.Pairwise.nil, h, Keeps.refl _ _⟩
end Go.Proofs.Ytcpcgpanmoellaa
namespace Go.Proofs.Ytcpcgpanmoellaa
open Go.RowKit Go.Lib

set_option maxHeartbeats 1000000 in
theorem sortedFunc_any (Bs base : Nat) (lv : Value) (L : List En) (hle : L.length ≤ 100000) (w : World) (hBs : w.cell? ⟨Bs, 0, none⟩ = some lv) (hr : w.ownsRow base 67 3 lv L.length (L.flatMap enc)) :
    Calls Try.prog 32 #[.func (.func 48) #[] #[.pointer (some ⟨Bs, 0, none⟩)], .func (.func 34) #[] #[]] w fun e W' =>
      ∃ (v : Value) (S : List En), e = .returned v ∧ S.Perm L ∧ S.Pairwise En.le ∧ W'.ownsRow w.heap.size 67 3 v S.length (S.flatMap enc) ∧ Below w.heap.size w W' := by
  have HC := Lib.hid (collect_any Bs base lv L hle w hBs hr)
  clear hBs hr
  go_enter Try.func32, Try.ntmps32
  go_wp2_with fail
  refine HC.out.mono ?_
  rintro e w1 ⟨v, rfl, hown, -, hb⟩
  have HS := Lib.hid (sort_own w1 hle hown)
  have HB := Lib.hid hb
  clear hown hb
  go_wp2_with fail
  refine HS.out.mono ?_
  rintro e w2 ⟨rfl, S, hp, hs, hown, hk⟩
  have HE := Lib.hid (show ∃ S : List En, S.Perm L ∧ S.Pairwise En.le ∧ w2.ownsRow w.heap.size 67 3 v S.length (S.flatMap enc) ∧ Below w.heap.size w w2 from ⟨S, hp, hs, by rw [hp.length_eq]; exact hown, HB.out.trans (hk.below HB.out.size fun k hk => hk)⟩)
  clear hp hs hown hk
  go_wp2
  go_ret
  obtain ⟨S, h⟩ := HE.out
  exact ⟨v, S, rfl, h⟩
end Go.Proofs.Ytcpcgpanmoellaa
namespace Go.Proofs.Ytcpcgpanmoellaa
open Go.RowKit Go.Shelf
attribute [local go_sem] Oper.semAt_some

/-- what a round keeps: things' blocks, but for X. -/
def KpE (X : Nat → Prop) (A B : World) : Prop := A.heap.size ≤ B.heap.size ∧ ∀ k cs fr, ¬ X k → A.heap[k]? = some (.cells cs 67 fr) → B.heap[k]? = some (.cells cs 67 fr)
theorem KpE.refl (X : Nat → Prop) (A : World) : KpE X A A := ⟨Nat.le_refl _, fun _ _ _ _ h => h⟩
theorem KpE.trans {X : Nat → Prop} {A B C : World} (h : KpE X A B) (k : KpE X B C) : KpE X A C := ⟨Nat.le_trans h.1 k.1, fun i cs fr hi ho => k.2 i cs fr hi (h.2 i cs fr hi ho)⟩
theorem KpE.ofBelow {X : Nat → Prop} {A B : World} (h : Below A.heap.size A B) : KpE X A B := ⟨h.size, fun k cs fr _ ho => (h.block k (lt_of_block ho)).trans ho⟩
theorem KpE.putObj {X : Nat → Prop} (W : World) (l : Nat) (o o' : Obj) (h : W.heap[l]? = some o) (hc : o.isCells = false) : KpE X W (W.putObj l o') := by
  have hlt := (Array.getElem?_eq_some_iff.1 h).1
  have hg := grownBy_putObj' W l o'
  refine ⟨hg.size, fun k cs fr _ ho => (hg.block k (lt_of_block ho) (fun e => ?_)).trans ho⟩
  simp only [Option.some.injEq] at e
  subst e
  rw [ho] at h
  cases h
  cases hc
abbrev itv (x : En) : Value := .agg #[.int .i64 x.key, .int .i64 x.name]
set_option maxRecDepth 100000 in
set_option maxHeartbeats 4000000 in
theorem qall1_in [Watch] (n : Nat) (hn : 5 ≤ n) (l Bq base q : Nat) (t : Int) (M : List En) (X : Nat → Prop) (J Jx : List En → World → Prop) (W : World) (tp : TypeId)
    (hY : ∀ pre x W1, J pre W1 → pre.length < M.length → YieldAt Fence.wide (n - 1) Try.prog l #[itv x] W1 fun e W' =>
      (e = .returned (.bool true) ∧ J (pre ++ [x]) W' ∧ KpE X W1 W') ∨ (e = .returned (.bool false) ∧ Jx (pre ++ [x]) W'))
    (hJ : AbidesFrom W.heap.size J) (hX : ∀ k, X k → k < W.heap.size) (hBq : W.heap[Bq]? = some (.cells #[.pointer (some ⟨q, 0, none⟩)] tp (0, 0))) (hq : Qu base W q t M) (h0 : J [] W) :
    CallsIn Fence.wide n Try.prog 31 #[.func (.yield l) #[] #[], .pointer (some ⟨Bq, 0, none⟩)] W fun e W' => (∃ v, e = .returned v) ∧
      ((∃ ys, (ys.Perm M ∧ ys.Pairwise En.le) ∧ J ys W') ∨ (∃ pre, (∃ S, S.Perm M ∧ S.Pairwise En.le ∧ pre <+: S) ∧ Jx pre W')) := by
  have hgr : ∀ A B : World, Below A.heap.size A B → A.grownBy B none := fun A B h => ⟨h.os, h.tape, h.output, h.size, fun k hk _ => h.block k hk⟩
  have h1n : 1 ≤ n := by omega
  have HM := Lib.hid (quMade W hq)
  obtain ⟨⟨r, m, lv, L, hqi, hpm⟩, -⟩ := hq
  have hle := hqi.row.le
  obtain ⟨ao, cap, rfl⟩ := own_val hqi.row.row
  obtain ⟨d0, -, -⟩ := hqi.row.cells
  obtain ⟨c0, -⟩ := two_box hqi.blk
  have hb0 : W.cell? ⟨Bq, 0, none⟩ = some (.pointer (some ⟨q, 0, none⟩)) := by simp [World.cell?, hBq]
  have hal := (Below.refl W.heap.size W).alloc (Nat.le_refl _) (.cells #[.slice ao L.length cap] 60)
  have HSr := Lib.hid (sortedFunc_any W.heap.size base _ L hle _ (Boxed.cell (Boxed.new W 60 (.slice ao L.length cap))) (hqi.row.row.alloc _))
  have HAl := Lib.hid hal
  have HPm := Lib.hid hpm
  obtain ⟨nn, hnn⟩ : ∃ nn, nn = L.length := ⟨_, rfl⟩
  rw [← hnn] at HSr d0 HAl
  have HNn := Lib.hid hnn
  have HX := Lib.hid hX
  clear hal hpm hqi hBq hnn hX
  refine callsIn_of_wp Try.func31 rfl trivial ?_ rfl
  simp only [Try.ntmps31, List.size_toArray, List.length_cons, List.length_nil, Nat.reduceAdd, Nat.reduceSub, Array.replicate_succ, Array.replicate_zero, List.push_toArray, List.append_toArray, List.nil_append, List.cons_append]
  gi_wp2_with (refine ⟨trivial, ?_⟩; first
    | (gi_at_call 23; refine (callsIn_wide.2 HM.out).mono ?_; rintro e w' ⟨rfl, rfl⟩)
    | (gi_at_call 33; refine (callsIn_wide.2 (values_any _ _ _ _)).mono ?_; rintro e w' ⟨rfl, rfl⟩)
    | (gi_at_call 32; refine (callsIn_wide.2 HSr.out).mono ?_; rintro e W2 ⟨v, S, rfl, hp, hs, hown, hb⟩; obtain ⟨sao, scap, rfl⟩ := own_val hown))
  have hlen : S.length = nn := by rw [hp.length_eq, HNn.out]
  have hMlen : nn = M.length := by rw [HNn.out]; exact HPm.out.length_eq
  have hb2 : Below W.heap.size W W2 := HAl.out.trans (hb.mono HAl.out.size)
  have hJ2 : J [] W2 := hJ _ _ _ none h0 (hgr _ _ hb2) (fun r e => by cases e)
  have hnx : ∀ g, (Value.slice sao S.length scap).ownBlock = some g → ¬ X g := fun g hg hx => by
    have h1 := HX.out g hx
    have h2 : W.heap.size + 1 ≤ g := by
      rcases hown.2 with ⟨e, _⟩ | ⟨g', cap', cur, e, hbg, hgb, _⟩
      · rw [e] at hg; simp [Value.ownBlock] at hg
      · rw [e] at hg; simp [Value.ownBlock] at hg; subst hg; simpa using hbg
    omega
  have hrow : ∀ wr, KpE X W2 wr → 0 < S.length → ∃ g, sao = some ⟨g, 0, none⟩ ∧ CellsE wr g S := fun wr hk hpos => by
    obtain ⟨g, cap', hv⟩ := own_shape hown hpos
    simp only [Value.slice.injEq] at hv
    obtain ⟨rfl, -, rfl⟩ := hv
    refine ⟨g, rfl, fun i hi => ?_⟩
    have hown2 : wr.ownsRow (W.alloc (.cells #[.slice ao nn cap] 60)).heap.size 67 3 (.slice (some ⟨g, 0, none⟩) S.length scap) S.length (S.flatMap enc) := by
      obtain ⟨g', cap', cur, e, hbg, hgb, rest⟩ := hown.2.resolve_left (fun h => by simp at h)
      simp only [Value.slice.injEq, Option.some.injEq, Addr.mk.injEq] at e
      obtain ⟨⟨rfl, -⟩, -, rfl⟩ := e
      exact ⟨hown.1, .inr ⟨g, scap, cur, rfl, hbg, hk.2 g _ _ (hnx g rfl) hgb, rest⟩⟩
    exact (row3 hown2 i hi).1
  have HRow := Lib.hid hrow
  have HLen := Lib.hid hlen
  have HMl := Lib.hid hMlen
  have HP := Lib.hid hp
  have HSs := Lib.hid hs
  have hsz2 := hb2.size
  rw [hlen] at HRow ⊢
  have hle2 : nn ≤ 100000 := by rw [HNn.out]; exact hle
  clear hown hp hs hb hnx hrow hlen hMlen hb2 h0 hle
  gi_wp2
  gi_loopw [18] (fun i wr => ∃ k : Nat, k ≤ nn ∧ i = .int .i64 k ∧ J (S.take k) wr ∧ KpE X W2 wr) (fun i _ => nn - (intOf i).toNat)
  case atStart => exact ⟨0, Nat.zero_le _, rfl, hJ2, KpE.refl _ _⟩
  case round =>
    obtain ⟨k, hk, rfl, hJs, hK⟩ := hrel
    by_cases hlt : k < nn
    · have hlt2 : (k : Int) < nn := by omega
      obtain ⟨g, rfl, hce⟩ := HRow.out wr hK (by omega)
      obtain ⟨x0, x1, x2⟩ := hce k (by rw [HLen.out]; exact hlt)
      have hJ3 : J (S.take k) (wr.alloc (.cells #[.int .i64 (pos S k).key, .int .i64 (pos S k).name, .int .i64 (pos S k).turn] 67)) := hJ _ _ _ none hJs (World.grownBy_alloc _ _ _) (fun r e => by cases e)
      have hK3 : KpE X W2 (wr.alloc (.cells #[.int .i64 (pos S k).key, .int .i64 (pos S k).name, .int .i64 (pos S k).turn] 67)) := hK.trans (KpE.ofBelow ((Below.refl _ _).alloc (Nat.le_refl _) _))
      obtain ⟨fn, tmps, assign, body, hy, hR⟩ := hY _ (pos S k) _ hJ3 (by rw [List.length_take, HLen.out, ← HMl.out]; omega)
      have hsn : S.take k ++ [pos S k] = S.take (k + 1) := by rw [pos_get (by rw [HLen.out]; exact hlt), List.take_succ_eq_append_getElem (by rw [HLen.out]; exact hlt)]
      rw [hsn] at hR
      have HK3 := Lib.hid hK3
      clear hsn hce hJ3 hK3 hK
      gi_wp2
      refine hR.mono ?_
      rintro e W3 (⟨rfl, hJ4, hk4⟩ | ⟨rfl, hJx4⟩)
      · gi_wp2
        go_roundw
        case rel => exact ⟨k + 1, by omega, by go_num, hJ4, HK3.out.trans hk4⟩
        case measure => simp [intOf]; omega
      · gi_wp2
        refine bodyPost_ret (results_none rfl _ _ _) rfl ?_
        exact ⟨⟨_, rfl⟩, .inr ⟨_, ⟨S, HP.out.trans HPm.out, HSs.out, List.take_prefix _ _⟩, hJx4⟩⟩
    · have hkn : k = nn := by omega
      have hlt2 : ¬ (k : Int) < nn := by omega
      have hJ5 : J S wr := by
        have := hJs
        rw [hkn, ← HLen.out, List.take_length] at this
        exact this
      clear hJs hkn
      gi_wp2
      go_end0
      first
        | exact ⟨⟨_, rfl⟩, .inl ⟨S, ⟨HP.out.trans HPm.out, HSs.out⟩, hJ5⟩⟩
        | exact .inl ⟨S, ⟨HP.out.trans HPm.out, HSs.out⟩, hJ5⟩
theorem qall_stops [Watch] (n : Nat) (hn : 5 ≤ n) (Bq base q : Nat) (t : Int) (M : List En) (X : Nat → Prop) (w : World) (tp : TypeId) (hX : ∀ k, X k → k < w.heap.size) (hBq : w.heap[Bq]? = some (.cells #[.pointer (some ⟨q, 0, none⟩)] tp (0, 0))) (hq : Qu base w q t M) :
    SeqStopsK Fence.wide n Try.prog 31 #[.pointer (some ⟨Bq, 0, none⟩)] (fun x : En => #[itv x]) (KpE X) (fun ys => ys.Perm M ∧ ys.Pairwise En.le) (fun pre => ∃ S : List En, S.Perm M ∧ S.Pairwise En.le ∧ pre <+: S) M.length w := fun l J Jx W hW hJ _ hY h0 =>
  qall1_in n hn l Bq base q t M X J Jx W tp hY hJ (fun k hk => Nat.lt_of_lt_of_le (hX k hk) hW.size) ((hW.block _ (lt_of_block hBq)).trans hBq) (hq.later hW) h0
theorem kpE_b {X : Nat → Prop} {w : World} (W : World) (l : Nat) (o o' : Obj) (_ : w.heap.size ≤ l) (h : W.heap[l]? = some o) (hc : o.isCells = false) (_ : o.isWalk = false) : KpE X W (W.putObj l o') := KpE.putObj W l o o' h hc
theorem qAll_any (p : Option Addr) (w : World) :
    Calls Try.prog 16 #[.pointer p] w fun e w' => e = .returned (.func (.func 31) #[] #[.pointer (some ⟨w.heap.size, 0, none⟩)]) ∧ w' = w.alloc (.cells #[.pointer p] 24) := by
  go_enter Try.func16, Try.ntmps16
  go_wp2
  go_ret
  exact ⟨rfl, rfl⟩
end Go.Proofs.Ytcpcgpanmoellaa
namespace Go.Proofs.Ytcpcgpanmoellaa
open Go.RowKit Go.Shelf
attribute [local go_sem] Oper.semAt_some

/-- as Q, but no panic. -/
def noPanic (Q : Exit → Act → World → Prop) : Exit → Act → World → Prop
  | .panic _, _, _ => False
  | .outgrown, _, _ => False
  | .normal, a, w => Q .normal a w
  | .ret, a, w => Q .ret a w
  | .exit i, a, w => Q (.exit i) a w
  | .goto t, a, w => Q (.goto t) a w
theorem noPanic_of {Q : Exit → Act → World → Prop} {e : Exit} {a : Act} {w : World} (h : noPanic Q e a w) : Q e a w := by
  cases e <;> first | exact h | exact False.elim h
theorem fold1 (t : Array Value) (p : Tmp) (v : Value) : (#[p].zip #[v]).foldl (fun (t : Array Value) (x : Tmp × Value) => t.setIfInBounds x.1 x.2) t = t.setIfInBounds p v := by
  have h : (#[p] : Array Tmp).zip #[v] = #[(p, v)] := by rw [List.zip_toArray]; rfl
  rw [h]
  simp
theorem range_box {α : Type} {P : Program} {g : Operand} {p : Tmp} {assign body : Code} {Q : Exit → Act → World → Prop} {a : Act} {w : World} {n : Nat} (h1 : 1 ≤ n) {gf : Nat} {lb : Array Value} (hg : a.eval g = .func (.func gf) #[] lb) (eg : ∀ args w, (callFunc gf args).run P w = .ok (.enter gf args) w)
    (enc : α → Value) (cells : α → Array Value) (T : TypeId) (d : Tmp) {Kp : World → World → Prop} {S Sp : List α → Prop} {N : Nat} (hseq : SeqStopsK Fence.wide (n - 1) P gf lb (fun x => #[enc x]) Kp S Sp N w)
    (hKt : ∀ {A B C : World}, Kp A B → Kp B C → Kp A C) (hKb : ∀ (W : World) (l : Nat) (o o' : Obj), w.heap.size ≤ l → W.heap[l]? = some o → o.isCells = false → o.isWalk = false → Kp W (W.putObj l o'))
    (I : List α → World → Prop) (Ix : Code → List α → World → Prop) (hI : OwnFrom w.heap.size I) (hIx : ∀ c, OwnFrom w.heap.size (Ix c)) (h0 : I [] w)
    (hassign : ∀ (l : Nat) (pre : List α) (x : α) (W : World) (K : Act → World → Prop), I pre W → (∀ W' Bx, KeepsFrom w.heap.size W W' → Kp W W' → I pre W' → W'.heap[Bx]? = some (.cells (cells x) T (0, 0)) →
        K { tmps := (a.tmps.setIfInBounds p (enc x)).setIfInBounds d (.pointer (some ⟨Bx, 0, none⟩)), defers := [] } W') →
      assign.wpIn (Fence.wide.inRound l) (n - 1 - 1) P (Exit.then K (fun _ _ _ => False)) { tmps := a.tmps.setIfInBounds p (enc x), defers := [] } W)
    (hbody : ∀ (l : Nat) (pre : List α) (x : α) (Bx : Nat) (W : World), w.heap.size ≤ l → I pre W → W.heap[Bx]? = some (.cells (cells x) T (0, 0)) → pre.length < N →
      body.wpIn (Fence.wide.inRound l) (n - 1 - 1) P (ownPostG w.heap.size Kp I Ix (pre ++ [x]) W) { tmps := (a.tmps.setIfInBounds p (enc x)).setIfInBounds d (.pointer (some ⟨Bx, 0, none⟩)), defers := [] } W)
    (hdone : ∀ (D : Nat) (xs : List α) (W : World), w.heap.size ≤ D → S xs → I xs W → W.heap[D]? = some (.deferred (some [])) → Q .normal { a with defers := { target := .collected D, args := #[] } :: a.defers } W)
    (hstop : ∀ (D : Nat) (c : Code) (pre : List α) (W : World), w.heap.size ≤ D → Sp pre → Ix c pre W → W.heap[D]? = some (.deferred (some [])) → c.wpIn Fence.wide n P Q { a with defers := { target := .collected D, args := #[] } :: a.defers } W) :
    (Code.rangeFunc g #[p] assign body).wpIn Fence.wide n P Q a w := by
  refine wpIn_rangeFunc_ownH rfl h1 hg trivial eg hseq hKt hKb (Below.refl _ _) (fun _ => rfl) I Ix hI hIx h0
    (fun x a' W => ∃ Bx, W.heap[Bx]? = some (.cells (cells x) T (0, 0)) ∧ a' = { tmps := (a.tmps.setIfInBounds p (enc x)).setIfInBounds d (.pointer (some ⟨Bx, 0, none⟩)), defers := [] })
    (fun x a' => Own.from (fun s X Y row hs hg hrow => by
      obtain ⟨Bx, h1, h3⟩ := hs
      exact ⟨Bx, box3_own Bx T (fun _ : Unit => cells x) () X Y row h1 hg hrow, h3⟩) _)
    ?_ ?_ hdone hstop
  · intro l pre x W K hi hK
    rw [fold1]
    exact hassign l pre x W K hi fun W' Bx k1 k2 k3 k4 => hK _ _ k1 k2 k3 ⟨Bx, k4, rfl⟩
  · rintro l pre x a' W hl - hi ⟨Bx, k4, rfl⟩ hlen
    exact hbody l pre x Bx W hl hi k4 hlen
end Go.Proofs.Ytcpcgpanmoellaa
namespace Go.Proofs.Ytcpcgpanmoellaa
open Go.RowKit Go.Lib

/-- things (key, name), as cells. -/
def ite (x : Int × Int) : List Value := [.int .i64 x.1, .int .i64 x.2]
def it2 (e : En) : List Value := [.int .i64 e.key, .int .i64 e.name]
theorem ite_len (x : Int × Int) : (ite x).length = 2 := rfl
theorem it2_len (x : En) : (it2 x).length = 2 := rfl
theorem it2_one (x : En) : ∀ u ∈ it2 x, u.oneCell' = true := by intro u hu; simp [it2] at hu; rcases hu with rfl | rfl <;> rfl
def itM (ks : List Int) (k : Nat) : List (Int × Int) := (List.range k).map fun i : Nat => (ks.getD i 0, (i : Int))
theorem itM_succ (ks : List Int) (k : Nat) : itM ks (k + 1) = itM ks k ++ [(ks.getD k 0, (k : Int))] := by simp [itM, List.range_succ]
theorem itM_len (ks : List Int) (k : Nat) : (itM ks k).length = k := by simp [itM]
theorem itM_get (ks : List Int) (k i : Nat) (h : i < (itM ks k).length) : (itM ks k)[i] = (ks.getD i 0, (i : Int)) := by simp [itM]
theorem putQ_itM (ks : List Int) : ∀ k : Nat, putQ 0 [] (itM ks k) = (true, (k : Int), mkM ks k)
  | 0 => rfl
  | k + 1 => by
    have ih := putQ_itM ks k
    have h := putQ_snoc (itM ks k) (ks.getD k 0, (k : Int)) 0 [] (by rw [ih])
    rw [itM_succ, h, ih]
    simp only
    rw [if_neg (by rw [mkM_has]; simp), mkM_succ]
    simp
theorem own_it {w : World} {base n : Nat} {v : Value} {l : List (Int × Int)} (hn : n = l.length) (h : w.ownsRow base 30 2 v n (l.flatMap ite)) : ItAt w v l := by
  subst hn
  rcases h.2 with ⟨rfl, h0⟩ | ⟨g, cap, cur, rfl, _, hg, hnc, hcm, hcs, ht⟩
  · exact ⟨none, 0, 0, 0, by rw [h0], fun h => by omega, fun i hi => by omega⟩
  · refine ⟨_, g, 0, cap, rfl, fun _ => ⟨rfl, _, _, hg⟩, fun i hi => ?_⟩
    have hc : ∀ c, c < 2 → w.cell? ⟨g, 0 + i * 2 + c, none⟩ = (ite l[i])[c]? := fun c hc => by
      rw [(block_cell' hg _).1, ← flat_get ite_len l i c hi hc, Nat.zero_add, ← ht, List.getElem?_take_of_lt (by omega)]
      simp
    exact ⟨hc 0 (by omega), hc 1 (by omega)⟩
theorem own_it2 {w : World} {base n : Nat} {v : Value} {l : List En} (hn : n = l.length) (h : w.ownsRow base 30 2 v n (l.flatMap it2)) : ItAt w v (l.map fun e => (e.key, e.name)) := by
  refine own_it (base := base) (n := n) (by rw [List.length_map]; exact hn) ?_
  rw [List.flatMap_map]
  exact h
/-- what holds of the things that come. -/
structure SortP (ks : List Int) (n : Nat) (S : List En) (k : Nat) (M : List En) : Prop where
  len : S.length = n
  srt : S.Pairwise En.le
  ent : ∀ e ∈ S, ∃ i : Nat, i < n ∧ e = ⟨ks.getD i 0, i, i⟩
  once : Once S
  prm : (S.drop k).Perm M
theorem SortP.start {ks : List Int} {n : Nat} {S : List En} (h1 : S.Perm (mkM ks n)) (h2 : S.Pairwise En.le) : SortP ks n S 0 (mkM ks n) := by
  refine ⟨by rw [h1.length_eq, mkM_len], h2, fun e he => mkM_mem.1 (h1.mem_iff.1 he), ?_, h1⟩
  have ho : Once (mkM ks n) := by
    unfold Once mkM
    rw [List.map_map]
    unfold List.Nodup
    rw [List.pairwise_map]
    refine List.Pairwise.imp ?_ List.pairwise_lt_range
    intro i j h
    simp only [Function.comp, ne_eq]
    omega
  exact ho.perm h1
theorem SortP.cons {ks : List Int} {n k : Nat} {S M : List En} (h : SortP ks n S k M) (hk : k < n) : S.drop k = pos S k :: S.drop (k + 1) := by
  rw [pos_get (by rw [h.len]; exact hk)]
  exact List.drop_eq_getElem_cons (by rw [h.len]; exact hk)
theorem SortP.first {ks : List Int} {n k : Nat} {S M : List En} (h : SortP ks n S k M) (hk : k < n) : FirstN M (pos S k) := by
  have hc := h.cons hk
  have hp := h.srt.sublist (List.drop_sublist k S)
  rw [hc] at hp
  have hm := h.prm
  rw [hc] at hm
  refine ⟨hm.mem_iff.1 (by simp), fun a ha => ?_⟩
  rcases List.mem_cons.1 (hm.mem_iff.2 ha) with rfl | h2
  · exact En.le_refl _
  · exact (List.pairwise_cons.1 hp).1 a h2
theorem SortP.next {ks : List Int} {n k : Nat} {S M : List En} (h : SortP ks n S k M) (hk : k < n) (ho : Once M) : SortP ks n S (k + 1) (dropN M (pos S k).name) := by
  refine ⟨h.len, h.srt, h.ent, h.once, ?_⟩
  refine drop_perm ho ?_
  have hm := h.prm
  rw [h.cons hk] at hm
  exact (List.perm_append_singleton _ _).trans hm
theorem SortP.at {ks : List Int} {n k : Nat} {S M : List En} (h : SortP ks n S k M) (hk : k < n) : ∃ i : Nat, i < n ∧ pos S k = ⟨ks.getD i 0, i, i⟩ := by
  refine h.ent _ ?_
  rw [pos_get (by rw [h.len]; exact hk)]
  exact List.getElem_mem _
theorem SortP.prev {ks : List Int} {n k : Nat} {S M : List En} (h : SortP ks n S (k + 1) M) (hk : k + 1 < n) : (pos S k).key < (pos S (k + 1)).key ∨ ((pos S k).key = (pos S (k + 1)).key ∧ (pos S k).name < (pos S (k + 1)).name) := by
  have h1 : k < S.length := by rw [h.len]; omega
  have h2 : k + 1 < S.length := by rw [h.len]; omega
  have h3 := List.pairwise_iff_getElem.1 h.srt k (k + 1) h1 h2 (by omega)
  rw [← pos_get h1, ← pos_get h2] at h3
  have h4 : (pos S k).name ≠ (pos S (k + 1)).name := fun e => by
    rw [pos_get h1, pos_get h2] at e
    have h5 : (S.map (·.name))[k]'(by simpa using h1) = (S.map (·.name))[k + 1]'(by simpa using h2) := by simpa using e
    have := (List.getElem_inj h.once).1 h5
    omega
  obtain ⟨i, -, hi⟩ := h.ent (pos S k) (by rw [pos_get h1]; exact List.getElem_mem _)
  obtain ⟨j, -, hj⟩ := h.ent (pos S (k + 1)) (by rw [pos_get h2]; exact List.getElem_mem _)
  rw [hi, hj] at h3 h4 ⊢
  unfold En.le En.lt at h3
  simp only at h3 h4 ⊢
  omega
end Go.Proofs.Ytcpcgpanmoellaa
