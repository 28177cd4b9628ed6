/-
  The chapter's examples.
-/
import Derived.Test.YtebgleehmgmfbaaAs
namespace Go.Proofs.Ytebgleehmgmfbaa
open Go.RowKit Go.Lib

/-- all that is there is watched, but for a script. -/
@[reducible] def watchAll (w : World) (sb : Nat) : Watch := ⟨fun k => k < w.heap.size ∧ k ≠ sb⟩
theorem no_w (k : Nat) : ¬ noWatch.W k := fun h => h
theorem KeepT.plain {I : Watch} {base : Nat} {T : List TypeId} {mp : Bool} {a b : World} (h : @KeepT I base T mp a b) : @KeepT noWatch base T mp a b :=
  Keeps.mono h fun k _ hk => ⟨hk.1, by
    have h2 := hk.2
    unfold Tyb at h2 ⊢
    split at h2
    · exact ⟨h2.1, fun _ => no_w k⟩
    · exact h2
    · exact h2⟩
theorem ScIs.plain {I : Watch} {base : Nat} {w : World} {sb s : Nat} {p : Pr} {lev : Int} {av rv lv : Value} {rds : List Rd} {gl : List Lnt} {ok : Bool} (h : @ScIs I base w sb s p lev av rv lv rds gl ok) : @ScIs noWatch base w sb s p lev av rv lv rds gl ok :=
  @ScIs.mk noWatch base w sb s p lev av rv lv rds gl ok h.blk h.row h.lnt h.lents h.far h.apart h.bs (no_w _) (fun _ _ => no_w _) (fun _ _ => no_w _) (fun k h => absurd h (no_w k)) h.le1 h.le2
theorem AnsS.watch {I : Watch} {base : Nat} {w : World} {v : Value} {l : List An} (h : @AnsS noWatch base w v l) : @AnsS I base w v l := fun w' hk => h w' hk.plain
/-- what a growth leaves of what was there. -/
def Oth (sb : Nat) (w w' : World) : Prop := ∀ k cs t fr, k ≠ sb → w.heap[k]? = some (.cells cs t fr) → t ≠ 67 → t ≠ 88 → t ≠ 77 → w'.heap[k]? = some (.cells cs t fr)
theorem Oth.of {sb : Nat} {base : Nat} {w w' : World} (h : @KeepT (watchAll w sb) base TT true w w') : Oth sb w w' := fun k cs t fr hk hb h1 h2 h3 => by
  refine Keeps.obj h hb fun hS => ?_
  have := hS.2
  unfold Tyb at this
  rw [hb] at this
  obtain ⟨ht, hw⟩ := this
  simp [TT, h1, h2, h3] at ht
  exact hw (by simpa using ht) ⟨lt_of_block hb, hk⟩
/-- a fresh script. -/
theorem sc_new [Watch] {base sb s : Nat} {p : Pr} {lev : Int} {av : Value} {w : World} (hb : w.heap[sb]? = some (.cells #[.pointer (some ⟨s, 0, none⟩), .int .i64 p.1, .int .i64 p.2, .int .i64 lev, av, .slice none 0 0, .slice none 0 0, .bool true] 35 (0, 0)))
    (hbs : base ≤ sb) (hnw : ¬ Watch.W sb) (hwl : ∀ k, Watch.W k → k < w.heap.size) : ScIs base w sb s p lev av (.slice none 0 0) (.slice none 0 0) [] [] true :=
  ⟨hb, ⟨by simp, .inl ⟨rfl, rfl⟩⟩, ⟨by simp, .inl ⟨rfl, rfl⟩⟩, fun x hx => by simp at hx, fun x hx => by simp at hx, List.Pairwise.nil, hbs, hnw, fun k hk => by simp [Value.ownBlock] at hk, fun k hk => by simp [Value.ownBlock] at hk, hwl, by simp, by simp⟩
/-- a pair grows, by a fresh script. -/
theorem grow_new {base s m : Nat} {sv : Value} {F : Live} {p : Pr} {sb : Nat} {lev : Int} {av : Value} {l : List An} {T : Nat} (w : World)
    (hs : StIs base w s m sv F) (hp : ∀ x ∈ F, x.1 ≠ p) (hw : W64 p) (hF : F.length < 100000) (hb : w.heap[sb]? = some (.cells #[.pointer (some ⟨s, 0, none⟩), .int .i64 p.1, .int .i64 p.2, .int .i64 lev, av, .slice none 0 0, .slice none 0 0, .bool true] 35 (0, 0)))
    (hbs : base ≤ sb) (ha : @AnsS noWatch base w av l) (hl : l.length < 90000) (ht : ∀ a ∈ l, a.tree.length ≤ 1000000) (hT : Stops l T) :
    Calls Try.prog 10 #[.pointer (some ⟨s, 0, none⟩), .int .i64 p.1, .int .i64 p.2, .int .i64 lev, bodyF sb] w fun e w' => ∃ v rv rl gl sv',
      e = .returned (.tuple #[.agg #[.bool (grR l T).is, .int .i64 (grR l T).en, .int .i64 (grR l T).far, v], .int .i64 (grR l T).n, .int .i64 (grR l T).err]) ∧ StIs base w' s m sv' F ∧ @ScIs noWatch base w' sb s p lev av rv rl (rdsA l lev (T + 1)) gl true ∧ gl.map (·.2) = treesA l (T + 1) ∧ TwIn w' v (grR l T).tree ∧ Off v gl ∧ @KeepT noWatch base TT true w w' ∧ Oth sb w w' := by
  refine (@grow_any (watchAll w sb) base s m sv F p sb lev av _ _ l T w hs hp hw hF (@sc_new (watchAll w sb) base sb s p lev av w hb hbs (fun h => h.2 rfl) (fun k h => h.1)) (AnsS.watch ha) hl ht hT).mono ?_
  rintro e w' ⟨v, rv, rl, gl, sv', he, h1, h2, h3, h4, h5, h6⟩
  exact ⟨v, rv, rl, gl, sv', he, h1, h2.plain, h3, h4, h5, h6.plain, Oth.of h6⟩

/-- blocks that are known. -/
def Knows (w : World) (K : List (Nat × Array Value × TypeId)) : Prop := ∀ x ∈ K, w.heap[x.1]? = some (.cells x.2.1 x.2.2 (0, 0))
theorem Knows.later {w w' : World} {K : List (Nat × Array Value × TypeId)} (h : Knows w K) (hb : Below w.heap.size w w') : Knows w' K := fun x hx => (hb.block _ (lt_of_block (h x hx))).trans (h x hx)
theorem Knows.oth {sb : Nat} {w w' : World} {K : List (Nat × Array Value × TypeId)} (h : Knows w K) (ho : Oth sb w w') (hn : ∀ x ∈ K, x.1 ≠ sb ∧ x.2.2 ≠ 67 ∧ x.2.2 ≠ 88 ∧ x.2.2 ≠ 77) : Knows w' K := fun x hx => ho _ _ _ _ (hn x hx).1 (h x hx) (hn x hx).2.1 (hn x hx).2.2.1 (hn x hx).2.2.2
theorem Knows.cons {w : World} {K : List (Nat × Array Value × TypeId)} (h : Knows w K) {x : Nat × Array Value × TypeId} (hx : w.heap[x.1]? = some (.cells x.2.1 x.2.2 (0, 0))) : Knows w (x :: K) := fun y hy => by
  rcases List.mem_cons.1 hy with rfl | hy
  · exact hx
  · exact h y hy
/-- answers in a block of their own. -/
theorem ansS_block {base g : Nat} {cs : Array Value} {l : List An} {w : World} (hb : w.heap[g]? = some (.cells cs 53 (0, 0))) (hcs : cs.toList = l.flatMap anc) (hl : l.length ≤ 1000000) (hv : ∀ a ∈ l, a.v = .slice none 0 0 ∧ a.tree = []) : @AnsS noWatch base w (.slice (some ⟨g, 0, none⟩) l.length l.length) l := fun w' hk => by
  have hb' := hk.cells hb (by decide)
  have hsz : cs.size = l.length * 5 := by rw [← Array.length_toList, hcs, flat_len anc_len]
  have hr : w'.ownsRow 0 53 5 (.slice (some ⟨g, 0, none⟩) l.length l.length) l.length (l.flatMap anc) :=
    ⟨flat_len anc_len l, .inr ⟨g, l.length, cs, rfl, Nat.zero_le _, hb', Nat.le_refl _, by unfold maxLen; omega, hsz, by rw [List.take_of_length_le (by rw [Array.length_toList]; omega), hcs]⟩⟩
  refine ⟨own_rows anc_len rfl hr, fun a ha => ?_⟩
  rw [(hv a ha).1, (hv a ha).2]
  exact (TwIn.nil w').1
theorem ansS_nil {base : Nat} {w : World} : @AnsS noWatch base w (.slice none 0 0) [] := fun w' _ => ⟨⟨none, 0, 0, 0, rfl, Nat.le_refl _, by unfold maxLen; omega, fun _ => ⟨rfl, rfl⟩, fun h => by simp at h, fun e he => by simp at he, fun i hi => by simp at hi⟩, fun a ha => by simp at ha⟩
instance (l : List An) (T : Nat) : Decidable (Stops l T) := by unfold Stops; infer_instance
/-- an example grows. -/
theorem grow_ex {base s m : Nat} {sv : Value} {sb : Nat} {av : Value} (l : List An) (T : Nat) {is : Bool} {en far n err : Int} (w : World) (hs : StIs base w s m sv []) (hb : w.heap[sb]? = some (.cells #[.pointer (some ⟨s, 0, none⟩), .int .i64 0, .int .i64 0, .int .i64 0, av, .slice none 0 0, .slice none 0 0, .bool true] 35 (0, 0)))
    (hbs : base ≤ sb) (ha : @AnsS noWatch base w av l) (hl : l.length < 90000) (ht : ∀ a ∈ l, a.tree.length ≤ 1000000) (hT : Stops l T) (hr : ∃ nn : Nat, grR l T = ⟨is, en, far, [], nn, err⟩ ∧ n = nn) :
    Calls Try.prog 10 #[.pointer (some ⟨s, 0, none⟩), .int .i64 0, .int .i64 0, .int .i64 0, .func (.func 11) #[.pointer (some ⟨sb, 0, none⟩)] #[]] w fun e w' => ∃ ao cap rv rl gl sv',
      e = .returned (.tuple #[.agg #[.bool is, .int .i64 en, .int .i64 far, .slice ao 0 cap], .int .i64 n, .int .i64 err]) ∧ StIs base w' s m sv' [] ∧ @ScIs noWatch base w' sb s (0, 0) 0 av rv rl (rdsA l 0 (T + 1)) gl true ∧ Oth sb w w' ∧ Below base w w' := by
  obtain ⟨nn, hr, rfl⟩ := hr
  have hbw : base ≤ w.heap.size := by have := lt_of_block hb; omega
  refine (grow_new (p := (0, 0)) (lev := 0) w hs (fun x hx => by simp at hx) ⟨rfl, rfl⟩ (by simp) hb hbs ha hl ht hT).mono ?_
  rintro e w' ⟨v, rv, rl, gl, sv', rfl, h1, h2, h3, h4, h5, h6, h7⟩
  rw [hr] at h4 ⊢
  obtain ⟨ao, cap, rfl⟩ := h4.1.val
  exact ⟨ao, cap, rv, rl, gl, sv', rfl, h1, h2, h7, KeepT.below h6 hbw⟩
def an2 : An := ⟨true, 2, -1, [], .slice none 0 0, 0⟩
def an5 : An := ⟨true, 5, -1, [], .slice none 0 0, 0⟩
def anE : An := ⟨false, 0, 0, [], .slice none 0 0, 11⟩
theorem st_a : Stops [an2, an5, an5] 2 := by decide
theorem st_b : Stops [] 0 := by decide
theorem st_c : Stops [an2] 1 := by decide
theorem st_d : Stops [an2, anE] 1 := by decide
theorem gr_a : grR [an2, an5, an5] 2 = ⟨true, 5, -1, [], 3, 0⟩ := by rfl
theorem gr_b : grR [] 0 = ⟨false, 0, -1, [], 1, 0⟩ := by rfl
theorem gr_c : grR [an2] 1 = ⟨true, 2, -1, [], 2, 0⟩ := by rfl
theorem gr_d : grR [an2, anE] 1 = ⟨false, 0, 0, [], 0, 11⟩ := by rfl
theorem rd_a : rdsA [an2, an5, an5] 0 3 = [(0, 0, 2), (2, 0, 3), (5, 0, 3)] := by rfl

set_option maxHeartbeats 400000 in
theorem to_any (n : Int) (w : World) :
    Calls Try.prog 18 #[.int .i64 n] w fun e w' => e = .returned (.agg #[.bool true, .int .i64 n, .int .i64 (-1), .slice none 0 0, .int .i64 0]) ∧ Below w.heap.size w w' := by
  go_enter Try.func18, Try.ntmps18
  go_wp2
  obtain ⟨hb, hx⟩ := one_new w (.cells #[.bool true, .int .i64 n, .int .i64 (-1), .slice none 0 0, .int .i64 0] 53 (0, 0))
  obtain ⟨x0, x1, x2, x3, x4, -⟩ := five_box hx
  exact bodyPost_ret (v := .agg #[.bool true, .int .i64 n, .int .i64 (-1), .slice none 0 0, .int .i64 0]) (by simp [results, Try.f18, go_sem, x0, x1, x2, x3, x4]) rfl ⟨rfl, hb⟩
theorem ans_a {base g : Nat} {w : World} (hb : w.heap[g]? = some (.cells #[.bool true, .int .i64 2, .int .i64 (-1), .slice none 0 0, .int .i64 0, .bool true, .int .i64 5, .int .i64 (-1), .slice none 0 0, .int .i64 0, .bool true, .int .i64 5, .int .i64 (-1), .slice none 0 0, .int .i64 0] 53 (0, 0))) : @AnsS noWatch base w (.slice (some ⟨g, 0, none⟩) 3 3) [an2, an5, an5] := ansS_block (l := [an2, an5, an5]) hb rfl (by simp) (by simp [an2, an5])
theorem ans_c {base g : Nat} {w : World} (hb : w.heap[g]? = some (.cells #[.bool true, .int .i64 2, .int .i64 (-1), .slice none 0 0, .int .i64 0] 53 (0, 0))) : @AnsS noWatch base w (.slice (some ⟨g, 0, none⟩) 1 1) [an2] := ansS_block (l := [an2]) hb rfl (by simp) (by simp [an2])
theorem ans_d {base g : Nat} {w : World} (hb : w.heap[g]? = some (.cells #[.bool true, .int .i64 2, .int .i64 (-1), .slice none 0 0, .int .i64 0, .bool false, .int .i64 0, .int .i64 0, .slice none 0 0, .int .i64 11] 53 (0, 0))) : @AnsS noWatch base w (.slice (some ⟨g, 0, none⟩) 2 2) [an2, anE] := ansS_block (l := [an2, anE]) hb rfl (by simp) (by simp [an2, anE])
theorem tr_a : ∀ a ∈ ([an2, an5, an5] : List An), a.tree.length ≤ 1000000 := by simp [an2, an5]
theorem tr_b : ∀ a ∈ ([] : List An), a.tree.length ≤ 1000000 := by simp
theorem tr_c : ∀ a ∈ ([an2] : List An), a.tree.length ≤ 1000000 := by simp [an2]
theorem tr_d : ∀ a ∈ ([an2, anE] : List An), a.tree.length ≤ 1000000 := by simp [an2, anE]
/-- what is known in the examples. -/
structure Aw (w wk : World) (K : List (Nat × Array Value × TypeId)) : Prop where
  b : Below w.heap.size w wk
  st : ∃ sv, StIs w.heap.size wk (w.heap.size + 1) w.heap.size sv []
  k : Knows wk K
theorem Aw.later {w wk w' : World} {K : List (Nat × Array Value × TypeId)} (h : Aw w wk K) (hb : Below wk.heap.size wk w') : Aw w w' K :=
  ⟨h.b.trans (hb.mono h.b.size), by obtain ⟨sv, hs⟩ := h.st; exact ⟨sv, hs.later hb⟩, h.k.later hb⟩
theorem Aw.one {w wk : World} {K : List (Nat × Array Value × TypeId)} (h : Aw w wk K) (c : Array Value) (t : TypeId) : Aw w (wk.alloc (.cells c t (0, 0))) ((wk.heap.size, c, t) :: K) := by
  obtain ⟨hb, hx⟩ := one_new wk (.cells c t (0, 0))
  have := h.later hb
  exact ⟨this.b, this.st, this.k.cons hx⟩
theorem Aw.lt {w wk : World} {K : List (Nat × Array Value × TypeId)} (h : Aw w wk K) {g : Nat} {c : Array Value} {t : TypeId} (hm : (g, c, t) ∈ K) : g < wk.heap.size := lt_of_block (h.k _ hm)
theorem Aw.sub {w wk : World} {K K' : List (Nat × Array Value × TypeId)} (h : Aw w wk K) (hs : ∀ x ∈ K', x ∈ K) : Aw w wk K' := ⟨h.b, h.st, fun x hx => h.k x (hs x hx)⟩
/-- what a growth leaves. -/
theorem Aw.grown {w wk w' : World} {K K' : List (Nat × Array Value × TypeId)} {sb : Nat} {cs : Array Value} {sv' : Value} (h : Aw w wk K) (hsb : (sb, cs, 35) ∈ K) (hs : StIs w.heap.size w' (w.heap.size + 1) w.heap.size sv' []) (ho : Oth sb wk w') (hb : Below w.heap.size wk w')
    (hsub : ∀ x ∈ K', x ∈ K ∧ (x.2.2 = 35 → x.1 ≠ sb) ∧ x.2.2 ≠ 67 ∧ x.2.2 ≠ 88 ∧ x.2.2 ≠ 77) : Aw w w' K' :=
  ⟨h.b.trans hb, ⟨_, hs⟩, fun x hx => by
    obtain ⟨hm, h1, h2, h3, h4⟩ := hsub x hx
    refine ho _ _ _ _ (fun e => ?_) (h.k x hm) h2 h3 h4
    have e1 := h.k _ hsb
    have e2 := h.k _ hm
    rw [e] at e2
    simp only at e1
    rw [e1] at e2
    simp only [Option.some.injEq, Obj.cells.injEq] at e2
    exact h1 e2.2.1.symm e⟩

set_option maxRecDepth 100000 in
set_option maxHeartbeats 4000000 in
theorem awake_any (w : World) :
    Calls Try.prog 8 #[] w fun e w' => e = .returned (.bool true) ∧ Below w.heap.size w w' := by
  go_enter Try.func8, Try.ntmps8
  go_wp2_with fail
  refine (st_new w w.heap.size (Nat.le_refl _)).mono ?_
  rintro e w1 ⟨rfl, hst, hb1⟩
  have HA := Lib.hid (show Aw w w1 [] from ⟨hb1, ⟨_, hst⟩, fun x hx => by simp at hx⟩)
  have Hs1 := Lib.hid (show w.heap.size + 1 < w1.heap.size from lt_of_block hst.blk)
  clear hst hb1
  go_wp2_with fail
  refine (to_any 2 w1).mono ?_
  rintro e wn1 ⟨rfl, hb⟩
  have HA := Lib.hid (HA.out.later hb)
  clear hb
  go_wp2_with fail
  refine (to_any 5 wn1).mono ?_
  rintro e wn2 ⟨rfl, hb⟩
  have HA := Lib.hid (HA.out.later hb)
  clear hb
  go_wp2_with fail
  refine (to_any 5 wn2).mono ?_
  rintro e wn3 ⟨rfl, hb⟩
  have HA := Lib.hid (HA.out.later hb)
  clear hb
  go_upto_region 3 with (fail)
  have hA := ((HA.out.one (#[.bool true, .int .i64 2, .int .i64 (-1), .slice none 0 0, .int .i64 0, .bool true, .int .i64 5, .int .i64 (-1), .slice none 0 0, .int .i64 0, .bool true, .int .i64 5, .int .i64 (-1), .slice none 0 0, .int .i64 0]) 53).one (#[.pointer (some ⟨w.heap.size + 1, 0, none⟩), .int .i64 0, .int .i64 0, .int .i64 0, .slice (some ⟨wn3.heap.size, 0, none⟩) 3 3, .slice none 0 0, .slice none 0 0, .bool true]) 35)
  have hA : Aw w ((wn3.alloc (.cells (#[.bool true, .int .i64 2, .int .i64 (-1), .slice none 0 0, .int .i64 0, .bool true, .int .i64 5, .int .i64 (-1), .slice none 0 0, .int .i64 0, .bool true, .int .i64 5, .int .i64 (-1), .slice none 0 0, .int .i64 0]) 53 (0, 0))).alloc (.cells (#[.pointer (some ⟨w.heap.size + 1, 0, none⟩), .int .i64 0, .int .i64 0, .int .i64 0, .slice (some ⟨wn3.heap.size, 0, none⟩) 3 3, .slice none 0 0, .slice none 0 0, .bool true]) 35 (0, 0))) [(wn3.heap.size + 1, #[.pointer (some ⟨w.heap.size + 1, 0, none⟩), .int .i64 0, .int .i64 0, .int .i64 0, .slice (some ⟨wn3.heap.size, 0, none⟩) 3 3, .slice none 0 0, .slice none 0 0, .bool true], 35), (wn3.heap.size, #[.bool true, .int .i64 2, .int .i64 (-1), .slice none 0 0, .int .i64 0, .bool true, .int .i64 5, .int .i64 (-1), .slice none 0 0, .int .i64 0, .bool true, .int .i64 5, .int .i64 (-1), .slice none 0 0, .int .i64 0], 53)] := by simpa using hA
  refine gen_world (S := fun wq => Aw w wq [(wn3.heap.size + 1, #[.pointer (some ⟨w.heap.size + 1, 0, none⟩), .int .i64 0, .int .i64 0, .int .i64 0, .slice (some ⟨wn3.heap.size, 0, none⟩) 3 3, .slice none 0 0, .slice none 0 0, .bool true], 35), (wn3.heap.size, #[.bool true, .int .i64 2, .int .i64 (-1), .slice none 0 0, .int .i64 0, .bool true, .int .i64 5, .int .i64 (-1), .slice none 0 0, .int .i64 0, .bool true, .int .i64 5, .int .i64 (-1), .slice none 0 0, .int .i64 0], 53)]) hA (fun wn4 hn => ?_)
  obtain ⟨A1, hA1⟩ : ∃ A1, A1 = wn3.heap.size := ⟨_, rfl⟩
  rw [← hA1] at hn ⊢
  have HA1 := Lib.hid (show w.heap.size ≤ A1 by rw [hA1]; exact HA.out.b.size)
  clear hA1
  clear hA HA
  have HA := Lib.hid hn
  clear hn
  go_upto_region 4 with (fail)
  have hA := (HA.out.one (#[.pointer (some ⟨w.heap.size + 1, 0, none⟩), .int .i64 0, .int .i64 0, .int .i64 0, .slice none 0 0, .slice none 0 0, .slice none 0 0, .bool true]) 35)
  have hA : Aw w (wn4.alloc (.cells (#[.pointer (some ⟨w.heap.size + 1, 0, none⟩), .int .i64 0, .int .i64 0, .int .i64 0, .slice none 0 0, .slice none 0 0, .slice none 0 0, .bool true]) 35 (0, 0))) [(wn4.heap.size, #[.pointer (some ⟨w.heap.size + 1, 0, none⟩), .int .i64 0, .int .i64 0, .int .i64 0, .slice none 0 0, .slice none 0 0, .slice none 0 0, .bool true], 35), (A1 + 1, #[.pointer (some ⟨w.heap.size + 1, 0, none⟩), .int .i64 0, .int .i64 0, .int .i64 0, .slice (some ⟨A1, 0, none⟩) 3 3, .slice none 0 0, .slice none 0 0, .bool true], 35), (A1, #[.bool true, .int .i64 2, .int .i64 (-1), .slice none 0 0, .int .i64 0, .bool true, .int .i64 5, .int .i64 (-1), .slice none 0 0, .int .i64 0, .bool true, .int .i64 5, .int .i64 (-1), .slice none 0 0, .int .i64 0], 53)] := by simpa using hA
  refine gen_world (S := fun wq => Aw w wq [(wn4.heap.size, #[.pointer (some ⟨w.heap.size + 1, 0, none⟩), .int .i64 0, .int .i64 0, .int .i64 0, .slice none 0 0, .slice none 0 0, .slice none 0 0, .bool true], 35), (A1 + 1, #[.pointer (some ⟨w.heap.size + 1, 0, none⟩), .int .i64 0, .int .i64 0, .int .i64 0, .slice (some ⟨A1, 0, none⟩) 3 3, .slice none 0 0, .slice none 0 0, .bool true], 35), (A1, #[.bool true, .int .i64 2, .int .i64 (-1), .slice none 0 0, .int .i64 0, .bool true, .int .i64 5, .int .i64 (-1), .slice none 0 0, .int .i64 0, .bool true, .int .i64 5, .int .i64 (-1), .slice none 0 0, .int .i64 0], 53)]) hA (fun wn5 hn => ?_)
  obtain ⟨S2, hS2⟩ : ∃ S2, S2 = wn4.heap.size := ⟨_, rfl⟩
  rw [← hS2] at hn ⊢
  have HS2 := Lib.hid (show w.heap.size ≤ S2 by rw [hS2]; exact HA.out.b.size)
  have HaS2 := Lib.hid (show A1 + 1 < S2 by rw [hS2]; exact HA.out.lt (.head _))
  clear hS2
  clear hA HA
  have HA := Lib.hid hn
  clear hn
  go_wp2_with fail
  refine (to_any 2 wn5).mono ?_
  rintro e wn6 ⟨rfl, hb⟩
  have HA := Lib.hid (HA.out.later hb)
  clear hb
  go_upto_region 5 with (fail)
  have hA := ((HA.out.one (#[.bool true, .int .i64 2, .int .i64 (-1), .slice none 0 0, .int .i64 0]) 53).one (#[.pointer (some ⟨w.heap.size + 1, 0, none⟩), .int .i64 0, .int .i64 0, .int .i64 0, .slice (some ⟨wn6.heap.size, 0, none⟩) 1 1, .slice none 0 0, .slice none 0 0, .bool true]) 35)
  have hA : Aw w ((wn6.alloc (.cells (#[.bool true, .int .i64 2, .int .i64 (-1), .slice none 0 0, .int .i64 0]) 53 (0, 0))).alloc (.cells (#[.pointer (some ⟨w.heap.size + 1, 0, none⟩), .int .i64 0, .int .i64 0, .int .i64 0, .slice (some ⟨wn6.heap.size, 0, none⟩) 1 1, .slice none 0 0, .slice none 0 0, .bool true]) 35 (0, 0))) [(wn6.heap.size + 1, #[.pointer (some ⟨w.heap.size + 1, 0, none⟩), .int .i64 0, .int .i64 0, .int .i64 0, .slice (some ⟨wn6.heap.size, 0, none⟩) 1 1, .slice none 0 0, .slice none 0 0, .bool true], 35), (wn6.heap.size, #[.bool true, .int .i64 2, .int .i64 (-1), .slice none 0 0, .int .i64 0], 53), (S2, #[.pointer (some ⟨w.heap.size + 1, 0, none⟩), .int .i64 0, .int .i64 0, .int .i64 0, .slice none 0 0, .slice none 0 0, .slice none 0 0, .bool true], 35), (A1 + 1, #[.pointer (some ⟨w.heap.size + 1, 0, none⟩), .int .i64 0, .int .i64 0, .int .i64 0, .slice (some ⟨A1, 0, none⟩) 3 3, .slice none 0 0, .slice none 0 0, .bool true], 35), (A1, #[.bool true, .int .i64 2, .int .i64 (-1), .slice none 0 0, .int .i64 0, .bool true, .int .i64 5, .int .i64 (-1), .slice none 0 0, .int .i64 0, .bool true, .int .i64 5, .int .i64 (-1), .slice none 0 0, .int .i64 0], 53)] := by simpa using hA
  refine gen_world (S := fun wq => Aw w wq [(wn6.heap.size + 1, #[.pointer (some ⟨w.heap.size + 1, 0, none⟩), .int .i64 0, .int .i64 0, .int .i64 0, .slice (some ⟨wn6.heap.size, 0, none⟩) 1 1, .slice none 0 0, .slice none 0 0, .bool true], 35), (wn6.heap.size, #[.bool true, .int .i64 2, .int .i64 (-1), .slice none 0 0, .int .i64 0], 53), (S2, #[.pointer (some ⟨w.heap.size + 1, 0, none⟩), .int .i64 0, .int .i64 0, .int .i64 0, .slice none 0 0, .slice none 0 0, .slice none 0 0, .bool true], 35), (A1 + 1, #[.pointer (some ⟨w.heap.size + 1, 0, none⟩), .int .i64 0, .int .i64 0, .int .i64 0, .slice (some ⟨A1, 0, none⟩) 3 3, .slice none 0 0, .slice none 0 0, .bool true], 35), (A1, #[.bool true, .int .i64 2, .int .i64 (-1), .slice none 0 0, .int .i64 0, .bool true, .int .i64 5, .int .i64 (-1), .slice none 0 0, .int .i64 0, .bool true, .int .i64 5, .int .i64 (-1), .slice none 0 0, .int .i64 0], 53)]) hA (fun wn7 hn => ?_)
  obtain ⟨A3, hA3⟩ : ∃ A3, A3 = wn6.heap.size := ⟨_, rfl⟩
  rw [← hA3] at hn ⊢
  have HA3 := Lib.hid (show w.heap.size ≤ A3 by rw [hA3]; exact HA.out.b.size)
  have HaA3 := Lib.hid (show A1 + 1 < A3 by rw [hA3]; exact HA.out.lt (.tail _ (.head _)))
  have HbA3 := Lib.hid (show S2 < A3 by rw [hA3]; exact HA.out.lt (.head _))
  clear hA3
  clear hA HA
  have HA := Lib.hid hn
  clear hn
  go_wp2_with fail
  refine (to_any 2 wn7).mono ?_
  rintro e wn8 ⟨rfl, hb⟩
  have HA := Lib.hid (HA.out.later hb)
  clear hb
  go_upto_region 6 with (fail)
  have hA := ((HA.out.one (#[.bool true, .int .i64 2, .int .i64 (-1), .slice none 0 0, .int .i64 0, .bool false, .int .i64 0, .int .i64 0, .slice none 0 0, .int .i64 11]) 53).one (#[.pointer (some ⟨w.heap.size + 1, 0, none⟩), .int .i64 0, .int .i64 0, .int .i64 0, .slice (some ⟨wn8.heap.size, 0, none⟩) 2 2, .slice none 0 0, .slice none 0 0, .bool true]) 35)
  have hA : Aw w ((wn8.alloc (.cells (#[.bool true, .int .i64 2, .int .i64 (-1), .slice none 0 0, .int .i64 0, .bool false, .int .i64 0, .int .i64 0, .slice none 0 0, .int .i64 11]) 53 (0, 0))).alloc (.cells (#[.pointer (some ⟨w.heap.size + 1, 0, none⟩), .int .i64 0, .int .i64 0, .int .i64 0, .slice (some ⟨wn8.heap.size, 0, none⟩) 2 2, .slice none 0 0, .slice none 0 0, .bool true]) 35 (0, 0))) [(wn8.heap.size + 1, #[.pointer (some ⟨w.heap.size + 1, 0, none⟩), .int .i64 0, .int .i64 0, .int .i64 0, .slice (some ⟨wn8.heap.size, 0, none⟩) 2 2, .slice none 0 0, .slice none 0 0, .bool true], 35), (wn8.heap.size, #[.bool true, .int .i64 2, .int .i64 (-1), .slice none 0 0, .int .i64 0, .bool false, .int .i64 0, .int .i64 0, .slice none 0 0, .int .i64 11], 53), (A3 + 1, #[.pointer (some ⟨w.heap.size + 1, 0, none⟩), .int .i64 0, .int .i64 0, .int .i64 0, .slice (some ⟨A3, 0, none⟩) 1 1, .slice none 0 0, .slice none 0 0, .bool true], 35), (A3, #[.bool true, .int .i64 2, .int .i64 (-1), .slice none 0 0, .int .i64 0], 53), (S2, #[.pointer (some ⟨w.heap.size + 1, 0, none⟩), .int .i64 0, .int .i64 0, .int .i64 0, .slice none 0 0, .slice none 0 0, .slice none 0 0, .bool true], 35), (A1 + 1, #[.pointer (some ⟨w.heap.size + 1, 0, none⟩), .int .i64 0, .int .i64 0, .int .i64 0, .slice (some ⟨A1, 0, none⟩) 3 3, .slice none 0 0, .slice none 0 0, .bool true], 35), (A1, #[.bool true, .int .i64 2, .int .i64 (-1), .slice none 0 0, .int .i64 0, .bool true, .int .i64 5, .int .i64 (-1), .slice none 0 0, .int .i64 0, .bool true, .int .i64 5, .int .i64 (-1), .slice none 0 0, .int .i64 0], 53)] := by simpa using hA
  refine gen_world (S := fun wq => Aw w wq [(wn8.heap.size + 1, #[.pointer (some ⟨w.heap.size + 1, 0, none⟩), .int .i64 0, .int .i64 0, .int .i64 0, .slice (some ⟨wn8.heap.size, 0, none⟩) 2 2, .slice none 0 0, .slice none 0 0, .bool true], 35), (wn8.heap.size, #[.bool true, .int .i64 2, .int .i64 (-1), .slice none 0 0, .int .i64 0, .bool false, .int .i64 0, .int .i64 0, .slice none 0 0, .int .i64 11], 53), (A3 + 1, #[.pointer (some ⟨w.heap.size + 1, 0, none⟩), .int .i64 0, .int .i64 0, .int .i64 0, .slice (some ⟨A3, 0, none⟩) 1 1, .slice none 0 0, .slice none 0 0, .bool true], 35), (A3, #[.bool true, .int .i64 2, .int .i64 (-1), .slice none 0 0, .int .i64 0], 53), (S2, #[.pointer (some ⟨w.heap.size + 1, 0, none⟩), .int .i64 0, .int .i64 0, .int .i64 0, .slice none 0 0, .slice none 0 0, .slice none 0 0, .bool true], 35), (A1 + 1, #[.pointer (some ⟨w.heap.size + 1, 0, none⟩), .int .i64 0, .int .i64 0, .int .i64 0, .slice (some ⟨A1, 0, none⟩) 3 3, .slice none 0 0, .slice none 0 0, .bool true], 35), (A1, #[.bool true, .int .i64 2, .int .i64 (-1), .slice none 0 0, .int .i64 0, .bool true, .int .i64 5, .int .i64 (-1), .slice none 0 0, .int .i64 0, .bool true, .int .i64 5, .int .i64 (-1), .slice none 0 0, .int .i64 0], 53)]) hA (fun wn9 hn => ?_)
  obtain ⟨A4, hA4⟩ : ∃ A4, A4 = wn8.heap.size := ⟨_, rfl⟩
  rw [← hA4] at hn ⊢
  have HA4 := Lib.hid (show w.heap.size ≤ A4 by rw [hA4]; exact HA.out.b.size)
  have HaA4 := Lib.hid (show A1 + 1 < A4 by rw [hA4]; exact HA.out.lt (.tail _ (.tail _ (.tail _ (.head _)))))
  have HbA4 := Lib.hid (show S2 < A4 by rw [hA4]; exact HA.out.lt (.tail _ (.tail _ (.head _))))
  have HcA4 := Lib.hid (show A3 + 1 < A4 by rw [hA4]; exact HA.out.lt (.head _))
  clear hA4
  clear hA HA
  have HA := Lib.hid hn
  clear hn
  go_wp2_with fail
  obtain ⟨sv, hst⟩ := HA.out.st
  refine (grow_ex [an2, an5, an5] 2 wn9 hst (HA.out.k _ (.tail _ (.tail _ (.tail _ (.tail _ (.tail _ (.head _))))))) (by have := HA1.out; omega) (ans_a (HA.out.k _ (.tail _ (.tail _ (.tail _ (.tail _ (.tail _ (.tail _ (.head _))))))))) (by decide) tr_a st_a ⟨3, gr_a, rfl⟩).mono ?_
  rintro e wn10 ⟨ao1, cp1, rv1, rl1, gl1, sv', rfl, hst', hsc, ho, hb⟩
  have hA : Aw w wn10 [(A4 + 1, #[.pointer (some ⟨w.heap.size + 1, 0, none⟩), .int .i64 0, .int .i64 0, .int .i64 0, .slice (some ⟨A4, 0, none⟩) 2 2, .slice none 0 0, .slice none 0 0, .bool true], 35), (A4, #[.bool true, .int .i64 2, .int .i64 (-1), .slice none 0 0, .int .i64 0, .bool false, .int .i64 0, .int .i64 0, .slice none 0 0, .int .i64 11], 53), (A3 + 1, #[.pointer (some ⟨w.heap.size + 1, 0, none⟩), .int .i64 0, .int .i64 0, .int .i64 0, .slice (some ⟨A3, 0, none⟩) 1 1, .slice none 0 0, .slice none 0 0, .bool true], 35), (A3, #[.bool true, .int .i64 2, .int .i64 (-1), .slice none 0 0, .int .i64 0], 53), (S2, #[.pointer (some ⟨w.heap.size + 1, 0, none⟩), .int .i64 0, .int .i64 0, .int .i64 0, .slice none 0 0, .slice none 0 0, .slice none 0 0, .bool true], 35)] := HA.out.grown (.tail _ (.tail _ (.tail _ (.tail _ (.tail _ (.head _)))))) hst' ho hb (List.forall_mem_cons.2 ⟨⟨.head _, fun _ => by have e1 := HaS2.out; have e2 := HbA3.out; have e3 := HcA4.out; simp; omega, by simp, by simp, by simp⟩, List.forall_mem_cons.2 ⟨⟨.tail _ (.head _), fun h => by simp at h, by simp, by simp, by simp⟩, List.forall_mem_cons.2 ⟨⟨.tail _ (.tail _ (.head _)), fun _ => by have e1 := HaS2.out; have e2 := HbA3.out; have e3 := HcA4.out; simp; omega, by simp, by simp, by simp⟩, List.forall_mem_cons.2 ⟨⟨.tail _ (.tail _ (.tail _ (.head _))), fun h => by simp at h, by simp, by simp, by simp⟩, List.forall_mem_cons.2 ⟨⟨.tail _ (.tail _ (.tail _ (.tail _ (.head _)))), fun _ => by have e1 := HaS2.out; have e2 := HbA3.out; have e3 := HcA4.out; simp; omega, by simp, by simp, by simp⟩, fun x hx => by simp at hx⟩⟩⟩⟩⟩)
  obtain ⟨g1, cap1, cur1, hrv, hg1, hb1, hcap, -, hcs, htk⟩ := (hsc.row.2).resolve_left (fun h => by have := h.2; rw [rdsA_len] at this; omega)
  rw [hrv] at hsc
  have hrd : cur1[6]? = some (.int .i64 5) := by
    have : (cur1.toList.take 9)[6]? = some (.int .i64 5) := by
      rw [show (9 : Nat) = (rdsA [an2, an5, an5] 0 (2 + 1)).length * 3 by simp [rdsA_len], htk, rd_a]
      rfl
    rw [List.getElem?_take_of_lt (by omega)] at this
    simpa using this
  have hl3 : (rdsA [an2, an5, an5] 0 (2 + 1)).length = 3 := by simp [rdsA_len]
  rw [hl3] at hsc
  have hblk := hsc.blk
  simp only at hblk
  have Hrd := Lib.hid hrd
  have hA : Aw w wn10 [(A1 + 1, #[.pointer (some ⟨w.heap.size + 1, 0, none⟩), .int .i64 0, .int .i64 0, .int .i64 0, .slice (some ⟨A1, 0, none⟩) 3 3, .slice (some ⟨g1, 0, none⟩) 3 cap1, rl1, .bool true], 35), (g1, cur1, 51), (A4 + 1, #[.pointer (some ⟨w.heap.size + 1, 0, none⟩), .int .i64 0, .int .i64 0, .int .i64 0, .slice (some ⟨A4, 0, none⟩) 2 2, .slice none 0 0, .slice none 0 0, .bool true], 35), (A4, #[.bool true, .int .i64 2, .int .i64 (-1), .slice none 0 0, .int .i64 0, .bool false, .int .i64 0, .int .i64 0, .slice none 0 0, .int .i64 11], 53), (A3 + 1, #[.pointer (some ⟨w.heap.size + 1, 0, none⟩), .int .i64 0, .int .i64 0, .int .i64 0, .slice (some ⟨A3, 0, none⟩) 1 1, .slice none 0 0, .slice none 0 0, .bool true], 35), (A3, #[.bool true, .int .i64 2, .int .i64 (-1), .slice none 0 0, .int .i64 0], 53), (S2, #[.pointer (some ⟨w.heap.size + 1, 0, none⟩), .int .i64 0, .int .i64 0, .int .i64 0, .slice none 0 0, .slice none 0 0, .slice none 0 0, .bool true], 35)] := ⟨hA.b, hA.st, (hA.k.cons (x := (g1, cur1, 51)) hb1).cons (x := (A1 + 1, #[.pointer (some ⟨w.heap.size + 1, 0, none⟩), .int .i64 0, .int .i64 0, .int .i64 0, .slice (some ⟨A1, 0, none⟩) 3 3, .slice (some ⟨g1, 0, none⟩) 3 cap1, rl1, .bool true], 35)) hblk⟩
  clear hrv hg1 hb1 hcap hcs htk hrd hl3 hblk
  clear hst hst' hsc ho hb
  have HA := Lib.hid hA
  clear hA
  go_upto_region 7 with (fail)
  have hA := (HA.out.one (#[.bool true, .int .i64 5, .int .i64 (-1), .slice ao1 0 cp1]) 38)
  have hA : Aw w (wn10.alloc (.cells (#[.bool true, .int .i64 5, .int .i64 (-1), .slice ao1 0 cp1]) 38 (0, 0))) [(wn10.heap.size, #[.bool true, .int .i64 5, .int .i64 (-1), .slice ao1 0 cp1], 38), (A1 + 1, #[.pointer (some ⟨w.heap.size + 1, 0, none⟩), .int .i64 0, .int .i64 0, .int .i64 0, .slice (some ⟨A1, 0, none⟩) 3 3, .slice (some ⟨g1, 0, none⟩) 3 cap1, rl1, .bool true], 35), (g1, cur1, 51), (A4 + 1, #[.pointer (some ⟨w.heap.size + 1, 0, none⟩), .int .i64 0, .int .i64 0, .int .i64 0, .slice (some ⟨A4, 0, none⟩) 2 2, .slice none 0 0, .slice none 0 0, .bool true], 35), (A4, #[.bool true, .int .i64 2, .int .i64 (-1), .slice none 0 0, .int .i64 0, .bool false, .int .i64 0, .int .i64 0, .slice none 0 0, .int .i64 11], 53), (A3 + 1, #[.pointer (some ⟨w.heap.size + 1, 0, none⟩), .int .i64 0, .int .i64 0, .int .i64 0, .slice (some ⟨A3, 0, none⟩) 1 1, .slice none 0 0, .slice none 0 0, .bool true], 35), (A3, #[.bool true, .int .i64 2, .int .i64 (-1), .slice none 0 0, .int .i64 0], 53), (S2, #[.pointer (some ⟨w.heap.size + 1, 0, none⟩), .int .i64 0, .int .i64 0, .int .i64 0, .slice none 0 0, .slice none 0 0, .slice none 0 0, .bool true], 35)] := by simpa using hA
  refine gen_world (S := fun wq => Aw w wq [(wn10.heap.size, #[.bool true, .int .i64 5, .int .i64 (-1), .slice ao1 0 cp1], 38), (A1 + 1, #[.pointer (some ⟨w.heap.size + 1, 0, none⟩), .int .i64 0, .int .i64 0, .int .i64 0, .slice (some ⟨A1, 0, none⟩) 3 3, .slice (some ⟨g1, 0, none⟩) 3 cap1, rl1, .bool true], 35), (g1, cur1, 51), (A4 + 1, #[.pointer (some ⟨w.heap.size + 1, 0, none⟩), .int .i64 0, .int .i64 0, .int .i64 0, .slice (some ⟨A4, 0, none⟩) 2 2, .slice none 0 0, .slice none 0 0, .bool true], 35), (A4, #[.bool true, .int .i64 2, .int .i64 (-1), .slice none 0 0, .int .i64 0, .bool false, .int .i64 0, .int .i64 0, .slice none 0 0, .int .i64 11], 53), (A3 + 1, #[.pointer (some ⟨w.heap.size + 1, 0, none⟩), .int .i64 0, .int .i64 0, .int .i64 0, .slice (some ⟨A3, 0, none⟩) 1 1, .slice none 0 0, .slice none 0 0, .bool true], 35), (A3, #[.bool true, .int .i64 2, .int .i64 (-1), .slice none 0 0, .int .i64 0], 53), (S2, #[.pointer (some ⟨w.heap.size + 1, 0, none⟩), .int .i64 0, .int .i64 0, .int .i64 0, .slice none 0 0, .slice none 0 0, .slice none 0 0, .bool true], 35)]) hA (fun wn11 hn => ?_)
  obtain ⟨X1, hX1⟩ : ∃ X1, X1 = wn10.heap.size := ⟨_, rfl⟩
  rw [← hX1] at hn ⊢
  have HX1 := Lib.hid (show w.heap.size ≤ X1 by rw [hX1]; exact HA.out.b.size)
  clear hX1
  clear hA HA
  have HA := Lib.hid hn
  clear hn
  go_wp2_with fail
  obtain ⟨sv, hst⟩ := HA.out.st
  refine (grow_ex [] 0 wn11 hst (HA.out.k _ (.tail _ (.tail _ (.tail _ (.tail _ (.tail _ (.tail _ (.tail _ (.head _))))))))) (HS2.out) ansS_nil (by decide) tr_b st_b ⟨1, gr_b, rfl⟩).mono ?_
  rintro e wn12 ⟨ao2, cp2, rv2, rl2, gl2, sv', rfl, hst', hsc, ho, hb⟩
  have hA : Aw w wn12 [(X1, #[.bool true, .int .i64 5, .int .i64 (-1), .slice ao1 0 cp1], 38), (A1 + 1, #[.pointer (some ⟨w.heap.size + 1, 0, none⟩), .int .i64 0, .int .i64 0, .int .i64 0, .slice (some ⟨A1, 0, none⟩) 3 3, .slice (some ⟨g1, 0, none⟩) 3 cap1, rl1, .bool true], 35), (g1, cur1, 51), (A4 + 1, #[.pointer (some ⟨w.heap.size + 1, 0, none⟩), .int .i64 0, .int .i64 0, .int .i64 0, .slice (some ⟨A4, 0, none⟩) 2 2, .slice none 0 0, .slice none 0 0, .bool true], 35), (A4, #[.bool true, .int .i64 2, .int .i64 (-1), .slice none 0 0, .int .i64 0, .bool false, .int .i64 0, .int .i64 0, .slice none 0 0, .int .i64 11], 53), (A3 + 1, #[.pointer (some ⟨w.heap.size + 1, 0, none⟩), .int .i64 0, .int .i64 0, .int .i64 0, .slice (some ⟨A3, 0, none⟩) 1 1, .slice none 0 0, .slice none 0 0, .bool true], 35), (A3, #[.bool true, .int .i64 2, .int .i64 (-1), .slice none 0 0, .int .i64 0], 53)] := HA.out.grown (.tail _ (.tail _ (.tail _ (.tail _ (.tail _ (.tail _ (.tail _ (.head _)))))))) hst' ho hb (List.forall_mem_cons.2 ⟨⟨.head _, fun h => by simp at h, by simp, by simp, by simp⟩, List.forall_mem_cons.2 ⟨⟨.tail _ (.head _), fun _ => by have e1 := HaS2.out; have e2 := HbA3.out; have e3 := HcA4.out; simp; omega, by simp, by simp, by simp⟩, List.forall_mem_cons.2 ⟨⟨.tail _ (.tail _ (.head _)), fun h => by simp at h, by simp, by simp, by simp⟩, List.forall_mem_cons.2 ⟨⟨.tail _ (.tail _ (.tail _ (.head _))), fun _ => by have e1 := HaS2.out; have e2 := HbA3.out; have e3 := HcA4.out; simp; omega, by simp, by simp, by simp⟩, List.forall_mem_cons.2 ⟨⟨.tail _ (.tail _ (.tail _ (.tail _ (.head _)))), fun h => by simp at h, by simp, by simp, by simp⟩, List.forall_mem_cons.2 ⟨⟨.tail _ (.tail _ (.tail _ (.tail _ (.tail _ (.head _))))), fun _ => by have e1 := HaS2.out; have e2 := HbA3.out; have e3 := HcA4.out; simp; omega, by simp, by simp, by simp⟩, List.forall_mem_cons.2 ⟨⟨.tail _ (.tail _ (.tail _ (.tail _ (.tail _ (.tail _ (.head _)))))), fun h => by simp at h, by simp, by simp, by simp⟩, fun x hx => by simp at hx⟩⟩⟩⟩⟩⟩⟩)
  clear hst hst' hsc ho hb
  have HA := Lib.hid hA
  clear hA
  go_upto_region 8 with (fail)
  have hA := (HA.out.one (#[.bool false, .int .i64 0, .int .i64 (-1), .slice ao2 0 cp2]) 38)
  have hA : Aw w (wn12.alloc (.cells (#[.bool false, .int .i64 0, .int .i64 (-1), .slice ao2 0 cp2]) 38 (0, 0))) [(wn12.heap.size, #[.bool false, .int .i64 0, .int .i64 (-1), .slice ao2 0 cp2], 38), (X1, #[.bool true, .int .i64 5, .int .i64 (-1), .slice ao1 0 cp1], 38), (A1 + 1, #[.pointer (some ⟨w.heap.size + 1, 0, none⟩), .int .i64 0, .int .i64 0, .int .i64 0, .slice (some ⟨A1, 0, none⟩) 3 3, .slice (some ⟨g1, 0, none⟩) 3 cap1, rl1, .bool true], 35), (g1, cur1, 51), (A4 + 1, #[.pointer (some ⟨w.heap.size + 1, 0, none⟩), .int .i64 0, .int .i64 0, .int .i64 0, .slice (some ⟨A4, 0, none⟩) 2 2, .slice none 0 0, .slice none 0 0, .bool true], 35), (A4, #[.bool true, .int .i64 2, .int .i64 (-1), .slice none 0 0, .int .i64 0, .bool false, .int .i64 0, .int .i64 0, .slice none 0 0, .int .i64 11], 53), (A3 + 1, #[.pointer (some ⟨w.heap.size + 1, 0, none⟩), .int .i64 0, .int .i64 0, .int .i64 0, .slice (some ⟨A3, 0, none⟩) 1 1, .slice none 0 0, .slice none 0 0, .bool true], 35), (A3, #[.bool true, .int .i64 2, .int .i64 (-1), .slice none 0 0, .int .i64 0], 53)] := by simpa using hA
  refine gen_world (S := fun wq => Aw w wq [(wn12.heap.size, #[.bool false, .int .i64 0, .int .i64 (-1), .slice ao2 0 cp2], 38), (X1, #[.bool true, .int .i64 5, .int .i64 (-1), .slice ao1 0 cp1], 38), (A1 + 1, #[.pointer (some ⟨w.heap.size + 1, 0, none⟩), .int .i64 0, .int .i64 0, .int .i64 0, .slice (some ⟨A1, 0, none⟩) 3 3, .slice (some ⟨g1, 0, none⟩) 3 cap1, rl1, .bool true], 35), (g1, cur1, 51), (A4 + 1, #[.pointer (some ⟨w.heap.size + 1, 0, none⟩), .int .i64 0, .int .i64 0, .int .i64 0, .slice (some ⟨A4, 0, none⟩) 2 2, .slice none 0 0, .slice none 0 0, .bool true], 35), (A4, #[.bool true, .int .i64 2, .int .i64 (-1), .slice none 0 0, .int .i64 0, .bool false, .int .i64 0, .int .i64 0, .slice none 0 0, .int .i64 11], 53), (A3 + 1, #[.pointer (some ⟨w.heap.size + 1, 0, none⟩), .int .i64 0, .int .i64 0, .int .i64 0, .slice (some ⟨A3, 0, none⟩) 1 1, .slice none 0 0, .slice none 0 0, .bool true], 35), (A3, #[.bool true, .int .i64 2, .int .i64 (-1), .slice none 0 0, .int .i64 0], 53)]) hA (fun wn13 hn => ?_)
  obtain ⟨X2, hX2⟩ : ∃ X2, X2 = wn12.heap.size := ⟨_, rfl⟩
  rw [← hX2] at hn ⊢
  have HX2 := Lib.hid (show w.heap.size ≤ X2 by rw [hX2]; exact HA.out.b.size)
  clear hX2
  clear hA HA
  have HA := Lib.hid hn
  clear hn
  go_wp2_with fail
  obtain ⟨sv, hst⟩ := HA.out.st
  refine (grow_ex [an2] 1 wn13 hst (HA.out.k _ (.tail _ (.tail _ (.tail _ (.tail _ (.tail _ (.tail _ (.head _)))))))) (by have := HA3.out; omega) (ans_c (HA.out.k _ (.tail _ (.tail _ (.tail _ (.tail _ (.tail _ (.tail _ (.tail _ (.head _)))))))))) (by decide) tr_c st_c ⟨2, gr_c, rfl⟩).mono ?_
  rintro e wn14 ⟨ao3, cp3, rv3, rl3, gl3, sv', rfl, hst', hsc, ho, hb⟩
  have hA : Aw w wn14 [(X2, #[.bool false, .int .i64 0, .int .i64 (-1), .slice ao2 0 cp2], 38), (X1, #[.bool true, .int .i64 5, .int .i64 (-1), .slice ao1 0 cp1], 38), (A1 + 1, #[.pointer (some ⟨w.heap.size + 1, 0, none⟩), .int .i64 0, .int .i64 0, .int .i64 0, .slice (some ⟨A1, 0, none⟩) 3 3, .slice (some ⟨g1, 0, none⟩) 3 cap1, rl1, .bool true], 35), (g1, cur1, 51), (A4 + 1, #[.pointer (some ⟨w.heap.size + 1, 0, none⟩), .int .i64 0, .int .i64 0, .int .i64 0, .slice (some ⟨A4, 0, none⟩) 2 2, .slice none 0 0, .slice none 0 0, .bool true], 35), (A4, #[.bool true, .int .i64 2, .int .i64 (-1), .slice none 0 0, .int .i64 0, .bool false, .int .i64 0, .int .i64 0, .slice none 0 0, .int .i64 11], 53)] := HA.out.grown (.tail _ (.tail _ (.tail _ (.tail _ (.tail _ (.tail _ (.head _))))))) hst' ho hb (List.forall_mem_cons.2 ⟨⟨.head _, fun h => by simp at h, by simp, by simp, by simp⟩, List.forall_mem_cons.2 ⟨⟨.tail _ (.head _), fun h => by simp at h, by simp, by simp, by simp⟩, List.forall_mem_cons.2 ⟨⟨.tail _ (.tail _ (.head _)), fun _ => by have e1 := HaS2.out; have e2 := HbA3.out; have e3 := HcA4.out; simp; omega, by simp, by simp, by simp⟩, List.forall_mem_cons.2 ⟨⟨.tail _ (.tail _ (.tail _ (.head _))), fun h => by simp at h, by simp, by simp, by simp⟩, List.forall_mem_cons.2 ⟨⟨.tail _ (.tail _ (.tail _ (.tail _ (.head _)))), fun _ => by have e1 := HaS2.out; have e2 := HbA3.out; have e3 := HcA4.out; simp; omega, by simp, by simp, by simp⟩, List.forall_mem_cons.2 ⟨⟨.tail _ (.tail _ (.tail _ (.tail _ (.tail _ (.head _))))), fun h => by simp at h, by simp, by simp, by simp⟩, fun x hx => by simp at hx⟩⟩⟩⟩⟩⟩)
  clear hst hst' hsc ho hb
  have HA := Lib.hid hA
  clear hA
  go_upto_region 9 with (fail)
  have hA := (HA.out.one (#[.bool true, .int .i64 2, .int .i64 (-1), .slice ao3 0 cp3]) 38)
  have hA : Aw w (wn14.alloc (.cells (#[.bool true, .int .i64 2, .int .i64 (-1), .slice ao3 0 cp3]) 38 (0, 0))) [(wn14.heap.size, #[.bool true, .int .i64 2, .int .i64 (-1), .slice ao3 0 cp3], 38), (X2, #[.bool false, .int .i64 0, .int .i64 (-1), .slice ao2 0 cp2], 38), (X1, #[.bool true, .int .i64 5, .int .i64 (-1), .slice ao1 0 cp1], 38), (A1 + 1, #[.pointer (some ⟨w.heap.size + 1, 0, none⟩), .int .i64 0, .int .i64 0, .int .i64 0, .slice (some ⟨A1, 0, none⟩) 3 3, .slice (some ⟨g1, 0, none⟩) 3 cap1, rl1, .bool true], 35), (g1, cur1, 51), (A4 + 1, #[.pointer (some ⟨w.heap.size + 1, 0, none⟩), .int .i64 0, .int .i64 0, .int .i64 0, .slice (some ⟨A4, 0, none⟩) 2 2, .slice none 0 0, .slice none 0 0, .bool true], 35), (A4, #[.bool true, .int .i64 2, .int .i64 (-1), .slice none 0 0, .int .i64 0, .bool false, .int .i64 0, .int .i64 0, .slice none 0 0, .int .i64 11], 53)] := by simpa using hA
  refine gen_world (S := fun wq => Aw w wq [(wn14.heap.size, #[.bool true, .int .i64 2, .int .i64 (-1), .slice ao3 0 cp3], 38), (X2, #[.bool false, .int .i64 0, .int .i64 (-1), .slice ao2 0 cp2], 38), (X1, #[.bool true, .int .i64 5, .int .i64 (-1), .slice ao1 0 cp1], 38), (A1 + 1, #[.pointer (some ⟨w.heap.size + 1, 0, none⟩), .int .i64 0, .int .i64 0, .int .i64 0, .slice (some ⟨A1, 0, none⟩) 3 3, .slice (some ⟨g1, 0, none⟩) 3 cap1, rl1, .bool true], 35), (g1, cur1, 51), (A4 + 1, #[.pointer (some ⟨w.heap.size + 1, 0, none⟩), .int .i64 0, .int .i64 0, .int .i64 0, .slice (some ⟨A4, 0, none⟩) 2 2, .slice none 0 0, .slice none 0 0, .bool true], 35), (A4, #[.bool true, .int .i64 2, .int .i64 (-1), .slice none 0 0, .int .i64 0, .bool false, .int .i64 0, .int .i64 0, .slice none 0 0, .int .i64 11], 53)]) hA (fun wn15 hn => ?_)
  obtain ⟨X3, hX3⟩ : ∃ X3, X3 = wn14.heap.size := ⟨_, rfl⟩
  rw [← hX3] at hn ⊢
  have HX3 := Lib.hid (show w.heap.size ≤ X3 by rw [hX3]; exact HA.out.b.size)
  clear hX3
  clear hA HA
  have HA := Lib.hid hn
  clear hn
  go_wp2_with fail
  obtain ⟨sv, hst⟩ := HA.out.st
  refine (grow_ex [an2, anE] 1 wn15 hst (HA.out.k _ (.tail _ (.tail _ (.tail _ (.tail _ (.tail _ (.head _))))))) (by have := HA4.out; omega) (ans_d (HA.out.k _ (.tail _ (.tail _ (.tail _ (.tail _ (.tail _ (.tail _ (.head _))))))))) (by decide) tr_d st_d ⟨0, gr_d, rfl⟩).mono ?_
  rintro e wn16 ⟨ao4, cp4, rv4, rl4, gl4, sv', rfl, hst', hsc, ho, hb⟩
  have hA : Aw w wn16 [(X3, #[.bool true, .int .i64 2, .int .i64 (-1), .slice ao3 0 cp3], 38), (X2, #[.bool false, .int .i64 0, .int .i64 (-1), .slice ao2 0 cp2], 38), (X1, #[.bool true, .int .i64 5, .int .i64 (-1), .slice ao1 0 cp1], 38), (A1 + 1, #[.pointer (some ⟨w.heap.size + 1, 0, none⟩), .int .i64 0, .int .i64 0, .int .i64 0, .slice (some ⟨A1, 0, none⟩) 3 3, .slice (some ⟨g1, 0, none⟩) 3 cap1, rl1, .bool true], 35), (g1, cur1, 51)] := HA.out.grown (.tail _ (.tail _ (.tail _ (.tail _ (.tail _ (.head _)))))) hst' ho hb (List.forall_mem_cons.2 ⟨⟨.head _, fun h => by simp at h, by simp, by simp, by simp⟩, List.forall_mem_cons.2 ⟨⟨.tail _ (.head _), fun h => by simp at h, by simp, by simp, by simp⟩, List.forall_mem_cons.2 ⟨⟨.tail _ (.tail _ (.head _)), fun h => by simp at h, by simp, by simp, by simp⟩, List.forall_mem_cons.2 ⟨⟨.tail _ (.tail _ (.tail _ (.head _))), fun _ => by have e1 := HaS2.out; have e2 := HbA3.out; have e3 := HcA4.out; simp; omega, by simp, by simp, by simp⟩, List.forall_mem_cons.2 ⟨⟨.tail _ (.tail _ (.tail _ (.tail _ (.head _)))), fun h => by simp at h, by simp, by simp, by simp⟩, fun x hx => by simp at hx⟩⟩⟩⟩⟩)
  clear hst hst' hsc ho hb
  have HA := Lib.hid hA
  clear hA
  have hB := HA.out.one (#[.bool false, .int .i64 0, .int .i64 0, .slice ao4 0 cp4]) 38
  obtain ⟨x0, x1, x2, x3, -⟩ := four_box (hB.k _ (.tail _ (.tail _ (.tail _ (.head _)))))
  obtain ⟨y0, y1, y2, y3, -⟩ := four_box (hB.k _ (.tail _ (.tail _ (.head _))))
  obtain ⟨z0, z1, z2, z3, -⟩ := four_box (hB.k _ (.tail _ (.head _)))
  have s5 := (block_cell' (hB.k _ (.tail _ (.tail _ (.tail _ (.tail _ (.head _)))))) 5).1
  have s5 := s5.trans (show _ = some (.slice (some ⟨g1, 0, none⟩) 3 cap1) from rfl)
  have s7 := (block_cell' (hB.k _ (.tail _ (.tail _ (.tail _ (.tail _ (.head _)))))) 7).1
  have s7 := s7.trans (show _ = some (.bool true) from rfl)
  have r6 := ((block_cell' (hB.k _ (.tail _ (.tail _ (.tail _ (.tail _ (.tail _ (.head _))))))) 6).1).trans Hrd.out
  obtain ⟨sv, hst⟩ := hB.st
  have HSt := Lib.hid hst
  have HBb := Lib.hid hB.b
  clear hst hB
  go_wp2_with fail
  refine (st_len _ HSt.out).mono ?_
  rintro e we ⟨rfl, rfl⟩
  go_wp2
  go_ret
  exact ⟨rfl, HBb.out⟩
end Go.Proofs.Ytebgleehmgmfbaa
