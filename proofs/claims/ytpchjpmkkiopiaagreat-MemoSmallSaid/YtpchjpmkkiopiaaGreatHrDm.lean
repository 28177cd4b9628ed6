import Derived.Test.YtpchjpmkkiopiaaGreatHpMm
import Derived.Test.YtpchjpmkkiopiaaGreatHqEm
namespace Go.Proofs.YtpchjpmkkiopiaaGreat
open Go.RowKit Go.Lib

def hasN (M : List En) (x : Int) : Bool := M.any fun e => e.name == x
def dropN (M : List En) (x : Int) : List En := M.filter fun e => e.name != x
def moveN (M : List En) (x k : Int) : List En := M.map fun e => if e.name = x then ⟨k, e.name, e.turn⟩ else e
def keyN (M : List En) (x : Int) : Int := match M.find? fun e => e.name == x with | some e => e.key | none => 0
/-- the first to come. -/
def FirstN (M : List En) (e : En) : Prop := e ∈ M ∧ ∀ a ∈ M, En.le e a
/-- things are put, up to the first that is there. -/
def putQ : Int → List En → List (Int × Int) → Bool × Int × List En
  | t, M, [] => (true, t, M)
  | t, M, x :: r => if hasN M x.2 = true then (false, t, M) else putQ (t + 1) (M ++ [⟨x.1, x.2, t⟩]) r
theorem hasN_iff {M : List En} {x : Int} : hasN M x = true ↔ ∃ e ∈ M, e.name = x := by simp [hasN]
theorem hasN_perm {L M : List En} (h : L.Perm M) (x : Int) : hasN L x = hasN M x := by
  rw [Bool.eq_iff_iff, hasN_iff, hasN_iff]
  exact ⟨fun ⟨e, h1, h2⟩ => ⟨e, h.mem_iff.1 h1, h2⟩, fun ⟨e, h1, h2⟩ => ⟨e, h.mem_iff.2 h1, h2⟩⟩
theorem whr_has (L : List En) (x : Int) : (whr L x).isSome = hasN L x := by
  cases h : whr L x with
  | none =>
    have h1 := whr_not h
    cases h2 : hasN L x with
    | false => rfl
    | true =>
      obtain ⟨e, h3, h4⟩ := hasN_iff.1 h2
      obtain ⟨i, hi, he⟩ := List.mem_iff_getElem.1 h3
      exact absurd (by rw [pos_get hi, he]; exact h4) (h1 i hi)
  | some i =>
    obtain ⟨h1, h2⟩ := whr_is h
    exact (hasN_iff.2 ⟨pos L i, by rw [pos_get h1]; exact List.getElem_mem h1, h2⟩).symm
/-- of a name there is one thing. -/
theorem once_eq {L : List En} (ho : Once L) {a b : En} (ha : a ∈ L) (hb : b ∈ L) (h : a.name = b.name) : a = b := by
  obtain ⟨i, hi, rfl⟩ := List.mem_iff_getElem.1 ha
  obtain ⟨j, hj, rfl⟩ := List.mem_iff_getElem.1 hb
  have h3 : (L.map (·.name))[i]'(by simpa using hi) = (L.map (·.name))[j]'(by simpa using hj) := by simpa using h
  have := (List.getElem_inj ho).1 h3
  subst this
  rfl
theorem keyN_mem {M : List En} (ho : Once M) {e : En} (h : e ∈ M) : keyN M e.name = e.key := by
  unfold keyN
  cases hf : M.find? fun a => a.name == e.name with
  | none =>
    have := List.find?_eq_none.1 hf e h
    simp at this
  | some a =>
    have h1 := List.find?_some hf
    have h2 := List.mem_of_find?_eq_some hf
    simp only [beq_iff_eq] at h1
    rw [once_eq ho h2 h h1]
theorem keyN_none {M : List En} {x : Int} (h : hasN M x = false) : keyN M x = 0 := by
  unfold keyN
  cases hf : M.find? fun a => a.name == x with
  | none => rfl
  | some a =>
    have h1 := List.find?_some hf
    have h2 := List.mem_of_find?_eq_some hf
    have : hasN M x = true := hasN_iff.2 ⟨a, h2, by simpa using h1⟩
    rw [h] at this
    simp at this
theorem drop_perm {L2 M : List En} {e : En} (ho : Once M) (h : (L2 ++ [e]).Perm M) : L2.Perm (dropN M e.name) := by
  have h1 := h.filter (fun a => a.name != e.name)
  have ho2 : Once (L2 ++ [e]) := ho.perm h
  have h2 : (L2 ++ [e]).filter (fun a => a.name != e.name) = L2 := by
    rw [List.filter_append]
    have h3 : L2.filter (fun a => a.name != e.name) = L2 := by
      rw [List.filter_eq_self]
      intro a ha
      simp only [bne_iff_ne, ne_eq]
      intro hn
      unfold Once at ho2
      rw [List.map_append, List.nodup_append] at ho2
      exact ho2.2.2 _ (List.mem_map_of_mem ha) e.name (by simp) hn
    rw [h3]
    simp
  rw [h2] at h1
  exact h1
theorem moveN_get (L : List En) (x k : Int) (j : Nat) (h : j < (moveN L x k).length) (hj : j < L.length) : (moveN L x k)[j] = if L[j].name = x then ⟨k, L[j].name, L[j].turn⟩ else L[j] := by
  have e : (moveN L x k)[j]? = some (if L[j].name = x then ⟨k, L[j].name, L[j].turn⟩ else L[j]) := by
    unfold moveN
    rw [List.getElem?_map, List.getElem?_eq_getElem hj]
    rfl
  rw [List.getElem?_eq_getElem h] at e
  simpa using e
theorem move_set {L : List En} (ho : Once L) {i : Nat} (hi : i < L.length) (k : Int) : L.set i ⟨k, (pos L i).name, (pos L i).turn⟩ = moveN L (pos L i).name k := by
  apply List.ext_getElem
  · simp [moveN]
  · intro j h1 h2
    have hj : j < L.length := by simpa using h1
    rw [List.getElem_set]
    rw [moveN_get L _ _ j h2 hj]
    by_cases hij : i = j
    · subst hij
      rw [if_pos rfl, pos_get hi, if_pos rfl]
    · rw [if_neg hij, if_neg]
      intro hn
      rw [pos_get hi] at hn
      have h3 : (L.map (·.name))[j]'(by simpa using hj) = (L.map (·.name))[i]'(by simpa using hi) := by simpa using hn
      exact hij ((List.getElem_inj ho).1 h3).symm
theorem once_of_turns {M : List En} {f : En → Int} (h : M.Pairwise fun a b => f a < f b) : (M.map f).Nodup := by
  unfold List.Nodup
  rw [List.pairwise_map]
  exact h.imp fun h => by omega
/-- a list of things by turns, all below t. -/
structure Trn (t : Int) (M : List En) : Prop where
  srt : M.Pairwise fun a b => a.turn < b.turn
  lt : ∀ e ∈ M, e.turn < t
  once : Once M
  nn : ∀ e ∈ M, 0 ≤ e.turn
  t0 : 0 ≤ t
theorem Trn.nil {t : Int} (h : 0 ≤ t) : Trn t [] := ⟨.nil, by simp, by simp [Once], by simp, h⟩
theorem Trn.drop {t : Int} {M : List En} (h : Trn t M) (x : Int) : Trn t (dropN M x) :=
  ⟨h.srt.sublist List.filter_sublist, fun e he => h.lt e (List.mem_filter.1 he).1, by unfold Once dropN; exact (List.filter_sublist.map _).nodup h.once, fun e he => h.nn e (List.mem_filter.1 he).1, h.t0⟩
theorem moveN_names (M : List En) (x k : Int) : (moveN M x k).map (·.name) = M.map (·.name) := by
  unfold moveN
  rw [List.map_map]
  apply List.map_congr_left
  intro e _
  simp only [Function.comp]
  split <;> rfl
theorem moveN_turns (M : List En) (x k : Int) : (moveN M x k).map (·.turn) = M.map (·.turn) := by
  unfold moveN
  rw [List.map_map]
  apply List.map_congr_left
  intro e _
  simp only [Function.comp]
  split <;> rfl
theorem Trn.move {t : Int} {M : List En} (h : Trn t M) (x k : Int) : Trn t (moveN M x k) := by
  have h1 := moveN_turns M x k
  refine ⟨?_, ?_, by unfold Once; rw [moveN_names]; exact h.once, ?_, h.t0⟩
  · have h2 : ((moveN M x k).map (·.turn)).Pairwise (· < ·) := by rw [h1]; exact List.pairwise_map.2 h.srt
    exact List.pairwise_map.1 h2
  · intro e he
    have : e.turn ∈ M.map (·.turn) := by rw [← h1]; exact List.mem_map_of_mem he
    obtain ⟨a, ha, hae⟩ := List.mem_map.1 this
    rw [← hae]; exact h.lt a ha
  · intro e he
    have : e.turn ∈ M.map (·.turn) := by rw [← h1]; exact List.mem_map_of_mem he
    obtain ⟨a, ha, hae⟩ := List.mem_map.1 this
    rw [← hae]; exact h.nn a ha
theorem Trn.push {t : Int} {M : List En} (h : Trn t M) {k x : Int} (hn : hasN M x = false) : Trn (t + 1) (M ++ [⟨k, x, t⟩]) := by
  refine ⟨?_, fun e he => ?_, ?_, fun e he => ?_, by have := h.t0; omega⟩
  · rw [List.pairwise_append]
    refine ⟨h.srt, by simp, fun a ha b hb => ?_⟩
    simp at hb
    subst hb
    exact h.lt a ha
  · rcases List.mem_append.1 he with h1 | h1
    · have := h.lt e h1; omega
    · simp at h1; subst h1; show t < t + 1; omega
  · unfold Once
    rw [List.map_append, List.nodup_append]
    refine ⟨h.once, by simp, fun a ha b hb hab => ?_⟩
    simp at hb
    obtain ⟨e, he, hea⟩ := List.mem_map.1 ha
    have : hasN M x = true := hasN_iff.2 ⟨e, he, by rw [hea, hab, hb]⟩
    rw [hn] at this
    simp at this
  · rcases List.mem_append.1 he with h1 | h1
    · exact h.nn e h1
    · simp at h1; subst h1; exact h.t0
theorem putQ_trn : ∀ (l : List (Int × Int)) (t : Int) (M : List En), Trn t M → Trn (putQ t M l).2.1 (putQ t M l).2.2
  | [], t, M, h => h
  | x :: r, t, M, h => by
    unfold putQ
    by_cases hn : hasN M x.2 = true
    · rw [if_pos hn]; exact h
    · rw [if_neg hn]
      exact putQ_trn r _ _ (h.push (by simpa using hn))
theorem putQ_snoc : ∀ (l : List (Int × Int)) (x : Int × Int) (t : Int) (M : List En), (putQ t M l).1 = true →
    putQ t M (l ++ [x]) = if hasN (putQ t M l).2.2 x.2 = true then (false, (putQ t M l).2.1, (putQ t M l).2.2) else (true, (putQ t M l).2.1 + 1, (putQ t M l).2.2 ++ [⟨x.1, x.2, (putQ t M l).2.1⟩])
  | [], x, t, M, _ => by rw [List.nil_append]; simp only [putQ]; rfl
  | y :: r, x, t, M, h => by
    rw [List.cons_append]
    unfold putQ at h ⊢
    by_cases hn : hasN M y.2 = true
    · rw [if_pos hn] at h; simp at h
    · rw [if_neg hn] at h ⊢
      rw [if_neg hn]
      exact putQ_snoc r x _ _ h
theorem putQ_stop : ∀ (l r : List (Int × Int)) (t : Int) (M : List En), (putQ t M l).1 = false → putQ t M (l ++ r) = putQ t M l
  | [], r, t, M, h => by simp [putQ] at h
  | y :: l, r, t, M, h => by
    rw [List.cons_append]
    unfold putQ at h ⊢
    by_cases hn : hasN M y.2 = true
    · rw [if_pos hn, if_pos hn]
    · rw [if_neg hn] at h
      rw [if_neg hn, if_neg hn]
      exact putQ_stop l r _ _ h
theorem putQ_len : ∀ (l : List (Int × Int)) (t : Int) (M : List En), (putQ t M l).2.2.length ≤ M.length + l.length ∧ (putQ t M l).2.1 ≤ t + l.length ∧ t ≤ (putQ t M l).2.1
  | [], t, M => by simp [putQ]
  | y :: l, t, M => by
    unfold putQ
    by_cases hn : hasN M y.2 = true
    · rw [if_pos hn]; simp; omega
    · rw [if_neg hn]
      have := putQ_len l (t + 1) (M ++ [⟨y.1, y.2, t⟩])
      simp at this ⊢
      omega
theorem putQ_wf : ∀ (l : List (Int × Int)) (t : Int) (M : List En), (∀ e ∈ M, (kx e.name).wf = true) → (∀ x ∈ l, (kx x.2).wf = true) → ∀ e ∈ (putQ t M l).2.2, (kx e.name).wf = true
  | [], t, M, h, _ => h
  | y :: l, t, M, h, hl => by
    unfold putQ
    by_cases hn : hasN M y.2 = true
    · rw [if_pos hn]; exact h
    · rw [if_neg hn]
      refine putQ_wf l _ _ (fun e he => ?_) (fun x hx => hl x (by simp [hx]))
      rcases List.mem_append.1 he with h1 | h1
      · exact h e h1
      · simp at h1; subst h1; exact hl y (by simp)
end Go.Proofs.YtpchjpmkkiopiaaGreat
namespace Go.Proofs.YtpchjpmkkiopiaaGreat
open Go.RowKit Go.Lib

/-- the queue q, whose things are M, by turns; the next turn is t. -/
structure Qu [Watch] (base : Nat) (w : World) (q : Nat) (t : Int) (M : List En) : Prop where
  ex : ∃ r m lv L, QuIs base w q r m t lv L ∧ L.Perm M
  trn : Trn t M
/-- what a queue's deed may write. -/
abbrev KeepQ [Watch] (base q : Nat) (w w' : World) : Prop := Keeps (fun k => FootH base w k ∨ k = q) w w'
theorem KeepQ.trans [Watch] {base q : Nat} {a b c : World} (h : KeepQ base q a b) (k : KeepQ base q b c) : KeepQ base q a c :=
  ⟨k.os.trans h.os, k.tape.trans h.tape, k.output.trans h.output, Nat.le_trans h.size k.size, fun i hi hn => by
    have e := h.block i hi hn
    exact (k.block i (Nat.lt_of_lt_of_le hi h.size) (fun hb => hn (hb.elim (fun hb => .inl ((FootH.eq e).1 hb)) .inr))).trans e⟩
theorem KeepQ.ofH [Watch] {base q : Nat} {a b : World} (h : KeepH base a b) : KeepQ base q a b := Keeps.mono h fun _ _ hk => .inl hk
theorem KeepQ.ofBelow [Watch] {base q : Nat} {a b : World} (h : Below a.heap.size a b) : KeepQ base q a b := Keeps.ofNew h _
theorem KeepQ.below [Watch] {base q : Nat} {a b : World} (h : KeepQ base q a b) (hB : base ≤ a.heap.size) (hq : base ≤ q) : Below base a b :=
  Keeps.below h hB fun _ hk => hk.elim (fun hk => hk.1.1) (fun e => e ▸ hq)
theorem KeepQ.cells [Watch] {base q : Nat} {a b : World} (h : KeepQ base q a b) {k : Nat} {cs : Array Value} {t : TypeId} {fr : Nat × Nat} (hk : a.heap[k]? = some (.cells cs t fr)) (ht : t ∉ [111, 133]) (hq : k ≠ q) : b.heap[k]? = some (.cells cs t fr) :=
  Keeps.obj h hk fun hS => hS.elim (fun hS => ht (by have := hS.2; rw [hk] at this; exact this)) hq
theorem Qu.later [Watch] {base : Nat} {w w' : World} {q : Nat} {t : Int} {M : List En} (h : Qu base w q t M) (hb : Below w.heap.size w w') : Qu base w' q t M := by
  obtain ⟨⟨r, m, lv, L, h1, h2⟩, h3⟩ := h
  exact ⟨⟨r, m, lv, L, h1.later hb, h2⟩, h3⟩
theorem Qu.base [Watch] {base : Nat} {w : World} {q : Nat} {t : Int} {M : List En} (h : Qu base w q t M) : base ≤ q := by
  obtain ⟨⟨r, m, lv, L, h1, h2⟩, h3⟩ := h
  exact h1.bq
theorem Qu.lt [Watch] {base : Nat} {w : World} {q : Nat} {t : Int} {M : List En} (h : Qu base w q t M) : q < w.heap.size := by
  obtain ⟨⟨r, m, lv, L, h1, h2⟩, h3⟩ := h
  exact lt_of_block h1.blk
theorem Qu.wf [Watch] {base : Nat} {w : World} {q : Nat} {t : Int} {M : List En} (h : Qu base w q t M) : ∀ e ∈ M, (kx e.name).wf = true := by
  obtain ⟨⟨r, m, lv, L, h1, h2⟩, h3⟩ := h
  exact fun e he => h1.row.wf e (h2.mem_iff.2 he)
theorem Qu.qblk [Watch] {base : Nat} {w : World} {q : Nat} {t : Int} {M : List En} (h : Qu base w q t M) : ∃ cs, w.heap[q]? = some (.cells cs 113 (0, 0)) := by
  obtain ⟨⟨r, m, lv, L, h1, h2⟩, h3⟩ := h
  exact ⟨_, h1.blk⟩
theorem first_least {L M : List En} (hp : L.Perm M) (hh : Hp (pos L) L.length) (h0 : 0 < L.length) : FirstN M (pos L 0) := by
  refine ⟨hp.mem_iff.1 (by rw [pos_get h0]; exact List.getElem_mem h0), fun a ha => ?_⟩
  obtain ⟨i, hi, rfl⟩ := List.mem_iff_getElem.1 (hp.mem_iff.2 ha)
  rw [← pos_get hi]
  exact hp_least hh i hi
theorem quFirst0 [Watch] {base : Nat} {q : Nat} {t : Int} (w : World) (h : Qu base w q t []) :
    Calls Tryz.prog 54 #[.pointer (some ⟨q, 0, none⟩)] w fun e w' => e = .returned (.tuple #[.agg #[.int .i64 0, .int .i64 0], .bool false]) ∧ Below w.heap.size w w' := by
  obtain ⟨⟨r, m, lv, L, h1, h2⟩, h3⟩ := h
  obtain rfl := List.perm_nil.1 h2
  exact qFirst0_any w h1
theorem quFirst [Watch] {base : Nat} {q : Nat} {t : Int} {M : List En} (w : World) (h : Qu base w q t M) (h0 : M ≠ []) :
    ∃ e, FirstN M e ∧ Calls Tryz.prog 54 #[.pointer (some ⟨q, 0, none⟩)] w fun en w' => en = .returned (.tuple #[.agg #[.int .i64 e.key, .int .i64 e.name], .bool true]) ∧ Below w.heap.size w w' := by
  obtain ⟨⟨r, m, lv, L, h1, h2⟩, h3⟩ := h
  have hl : 0 < L.length := by
    rw [h2.length_eq]
    exact List.length_pos_iff.2 h0
  exact ⟨pos L 0, first_least h2 h1.hp hl, qFirst_any w h1 hl⟩
theorem quLen [Watch] {base : Nat} {q : Nat} {t : Int} {M : List En} (w : World) (h : Qu base w q t M) :
    Calls Tryz.prog 113 #[.pointer (some ⟨q, 0, none⟩)] w fun e w' => e = .returned (.int .i64 M.length) ∧ w = w' := by
  obtain ⟨⟨r, m, lv, L, h1, h2⟩, h3⟩ := h
  rw [← h2.length_eq]
  exact qLen_any w h1
end Go.Proofs.YtpchjpmkkiopiaaGreat
namespace Go.Proofs.YtpchjpmkkiopiaaGreat
open Go.RowKit Go.Lib

theorem dropN_none {M : List En} {x : Int} (h : hasN M x = false) : dropN M x = M := by
  unfold dropN
  rw [List.filter_eq_self]
  intro a ha
  simp only [bne_iff_ne, ne_eq]
  intro hn
  have : hasN M x = true := hasN_iff.2 ⟨a, ha, hn⟩
  rw [h] at this
  simp at this
theorem moveN_none {M : List En} {x k : Int} (h : hasN M x = false) : moveN M x k = M := by
  unfold moveN
  refine (List.map_congr_left fun a ha => ?_).trans (List.map_id _)
  rw [if_neg]
  · rfl
  · intro hn
    have : hasN M x = true := hasN_iff.2 ⟨a, ha, hn⟩
    rw [h] at this
    simp at this
set_option maxRecDepth 100000 in
set_option maxHeartbeats 2000000 in
theorem quDrop [Watch] {base : Nat} {q : Nat} {t : Int} {M : List En} (x : Int) (w : World) (h : Qu base w q t M) (hx : (kx x).wf = true) :
    Calls Tryz.prog 57 #[.pointer (some ⟨q, 0, none⟩), .int .i64 x] w fun en w' => en = .returned (.bool (hasN M x)) ∧ Qu base w' q t (dropN M x) ∧ KeepQ base q w w' := by
  have HTrn := Lib.hid h.trn
  have HQ := Lib.hid h
  obtain ⟨⟨r, m, lv, L, h1, h2⟩, h3⟩ := h
  have HH := Lib.hid (qHas_any x w h1 hx)
  rw [whr_has] at HH
  cases hb : hasN M x with
  | false =>
    rw [hasN_perm h2, hb] at HH
    have HM := Lib.hid (dropN_none hb)
    clear h1 h2 h3 hx hb
    go_enter Tryz.func57, Tryz.ntmps57
    go_wp2_with fail
    refine HH.out.mono ?_
    rintro en w1 ⟨c, rfl, -, rfl⟩
    go_wp2
    go_ret
    exact ⟨rfl, by rw [HM.out]; exact HQ.out, Keeps.refl _ _⟩
  | true =>
    rw [hasN_perm h2, hb] at HH
    obtain ⟨i, hw⟩ := Option.isSome_iff_exists.1 ((whr_has L x).trans ((hasN_perm h2 x).trans hb))
    obtain ⟨hi, hn⟩ := whr_is hw
    rw [hw] at HH
    obtain ⟨n, hl⟩ : ∃ n, L.length = n + 1 := ⟨L.length - 1, by omega⟩
    obtain ⟨c0, -⟩ := two_box h1.blk
    have HR := Lib.hid (hRemove_any i w h1.row h1.hp hl (by omega))
    have H1 := Lib.hid h1
    have H2 := Lib.hid h2
    have Hn := Lib.hid hn
    clear h1 h2 h3 hx hb hw hi hn hl
    go_enter Tryz.func57, Tryz.ntmps57
    go_wp2_with fail
    refine HH.out.mono ?_
    rintro en w1 ⟨c, rfl, hc, rfl⟩
    rw [hc i rfl]
    clear hc
    go_wp2_with fail
    refine HR.out.mono ?_
    rintro en w4 ⟨rfl, lv', L2, hr, hh, hp, hk⟩
    have hq4 := hk.cells H1.out.blk (by decide)
    have HE := Lib.hid (show Qu base w4 q t (dropN M x) ∧ KeepQ base q w w4 from ⟨⟨⟨r, m, lv', L2, ⟨hq4, hr, hh, fun a ha => H1.out.trn a (hp.mem_iff.1 (List.mem_append_left _ ha)), H1.out.bq⟩, by rw [← Hn.out]; exact drop_perm HTrn.out.once (hp.trans H2.out)⟩, HTrn.out.drop _⟩, KeepQ.ofH hk⟩)
    clear hr hh hp hk hq4
    go_wp2
    go_ret
    exact ⟨rfl, HE.out⟩
end Go.Proofs.YtpchjpmkkiopiaaGreat
