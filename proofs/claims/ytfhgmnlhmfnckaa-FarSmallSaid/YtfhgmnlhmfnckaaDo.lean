/-
  Chapter far: FarDoes: a record and the document's, side by side.
-/
import Derived.Test.YtfhgmnlhmfnckaaSeg
namespace Go.Proofs.Ytfhgmnlhmfnckaa
open Go.RowKit Go.Lib

set_option maxRecDepth 100000 in
theorem doc_Miss_neg {r : Nat} (w : World) (c : Nat → Bool) (place : Int) (h0 : place < 0) :
    Calls Try.prog 30 #[.pointer (some ⟨r, 0, none⟩), .int .i64 place, clv c] w fun e w' => e = .returned (.tuple #[]) ∧ Below w.heap.size w w' := by
  have hb := Lib.hid ((Below.refl w.heap.size w).alloc (Nat.le_refl _) (.cells (clc c) 29 (0, 0)))
  have h1 : ¬ place ≥ 0 := by omega
  have h2 : ¬ 0 ≤ place := by omega
  unfold clv
  unfold clc at *
  go_enter Try.func30, Try.ntmps30
  go_wp2
  go_end0
  exact ⟨rfl, hb.out⟩

/-- both records lie apart, behind what was there; the deed's block. -/
structure DX (Ha Hr : Nat → Prop) (w0 w : World) (a r x : Nat) (v : Value) (o : Obj) (W : List UInt8) (ps : List Part) (L : List Miss) (F : List Nat) : Prop where
  la : ∀ k, Ha k → w0.heap.size ≤ k
  lr : ∀ k, Hr k → w0.heap.size ≤ k
  ar : ∀ k, Ha k → ¬ Hr k
  xa : ¬ Ha x
  xr : ¬ Hr x
  fa : Far Ha w a ps W
  fr : RefS Hr w r v L F
  inp : BytesAt w0 v W
  bel : Below w0.heap.size w0 w
  deed : w.heap[x]? = some o
def DS (w0 w : World) (a r x : Nat) (v : Value) (o : Obj) (W : List UInt8) (ps : List Part) (L : List Miss) (F : List Nat) : Prop := ∃ Ha Hr, DX Ha Hr w0 w a r x v o W ps L F

theorem DX.far {Ha Ha' Hr : Nat → Prop} {w0 w w' : World} {a r x : Nat} {v : Value} {o : Obj} {W : List UInt8} {ps ps' : List Part} {L : List Miss} {F : List Nat} (h : DX Ha Hr w0 w a r x v o W ps L F)
    (hs : ∀ k, Ha' k → Ha k ∨ w.heap.size ≤ k) (hF : Far Ha' w' a ps' W) (hK : Keeps Ha w w') : DS w0 w' a r x v o W ps' L F := by
  have hx := lt_of_block h.deed
  refine ⟨Ha', Hr, ⟨fun k hk => ?_, h.lr, fun k hk hr => ?_, fun hk => ?_, h.xr, hF, h.fr.keep hK (fun k hk h' => h.ar k h' hk), h.inp, h.bel.trans (hK.below h.bel.size h.la), hK.obj h.deed h.xa⟩⟩
  · rcases hs k hk with h1 | h1
    · exact h.la k h1
    · exact Nat.le_trans h.bel.size h1
  · rcases hs k hk with h1 | h1
    · exact h.ar k h1 hr
    · have := h.fr.1 k hr; omega
  · rcases hs x hk with h1 | h1
    · exact h.xa h1
    · omega
theorem DX.ref {Ha Hr : Nat → Prop} {w0 w w' : World} {a r x : Nat} {v : Value} {o : Obj} {W : List UInt8} {ps : List Part} {L L' : List Miss} {F F' : List Nat} (h : DX Ha Hr w0 w a r x v o W ps L F)
    (hR : RefTo Hr w w' r v L' F') : DS w0 w' a r x v o W ps L' F' := by
  have hx := lt_of_block h.deed
  obtain ⟨Hr', hs, hR', hK⟩ := hR
  refine ⟨Ha, Hr', ⟨h.la, fun k hk => ?_, fun k ha hk => ?_, h.xa, fun hk => ?_, h.fa.keep hK (fun k hk h' => h.ar k hk h'), hR', h.inp, h.bel.trans (hK.below h.bel.size h.lr), hK.obj h.deed h.xr⟩⟩
  · rcases hs k hk with h1 | h1
    · exact h.lr k h1
    · exact Nat.le_trans h.bel.size h1
  · rcases hs k hk with h1 | h1
    · exact h.ar k ha h1
    · have := h.fa.1 k ha; omega
  · rcases hs x hk with h1 | h1
    · exact h.xr h1
    · omega
theorem DS.later {w0 w w' : World} {a r x : Nat} {v : Value} {o : Obj} {W : List UInt8} {ps : List Part} {L : List Miss} {F : List Nat} (h : DS w0 w a r x v o W ps L F) (hb : Below w.heap.size w w') : DS w0 w' a r x v o W ps L F := by
  obtain ⟨Ha, Hr, h⟩ := h
  exact ⟨Ha, Hr, h.la, h.lr, h.ar, h.xa, h.xr, h.fa.later hb, h.fr.later hb, h.inp, h.bel.trans (hb.mono h.bel.size), (hb.block _ (lt_of_block h.deed)).trans h.deed⟩

section
variable {w0 : World} {a r x : Nat} {v : Value} {o : Obj} {W : List UInt8} {L : List Miss} {F : List Nat} (w : World)
theorem do_farSet (init : List Part) (p : Part) (c : Nat → Bool) (place : Int) (h : DS w0 w a r x v o W (init ++ [p]) L F) :
    Calls Try.prog 10 #[.pointer (some ⟨a, 0, none⟩), clv c, .int .i64 place] w fun e w' => e = .returned (.bool (thereB W c place)) ∧ DS w0 w' a r x v o W (init ++ [askA W p c place]) L F := by
  obtain ⟨Ha, Hr, h⟩ := h
  refine (far_Set w c place h.fa).mono ?_
  rintro e w' ⟨rfl, hF, hK⟩
  exact ⟨rfl, h.far (fun _ hk => .inl hk) hF hK⟩
theorem do_farAny (init : List Part) (p : Part) (place : Int) (h : DS w0 w a r x v o W (init ++ [p]) L F) :
    Calls Try.prog 23 #[.pointer (some ⟨a, 0, none⟩), .int .i64 place] w fun e w' => e = .returned (.bool (thereB W (clNot clNone) place)) ∧ DS w0 w' a r x v o W (init ++ [askA W p (clNot clNone) place]) L F := by
  obtain ⟨Ha, Hr, h⟩ := h
  refine (far_Any w place h.fa).mono ?_
  rintro e w' ⟨rfl, hF, hK⟩
  exact ⟨rfl, h.far (fun _ hk => .inl hk) hF hK⟩
theorem do_farMiss (init : List Part) (p : Part) (c : Nat → Bool) (place : Int) (h : DS w0 w a r x v o W (init ++ [p]) L F) :
    Calls Try.prog 29 #[.pointer (some ⟨a, 0, none⟩), .int .i64 place, clv c] w fun e w' => e = .returned (.tuple #[]) ∧ DS w0 w' a r x v o W (init ++ [if place < 0 then p else missP p place c]) L F := by
  obtain ⟨Ha, Hr, h⟩ := h
  refine (far_Miss w c place h.fa).mono ?_
  rintro e w' ⟨rfl, hF, hK⟩
  exact ⟨rfl, h.far (fun _ hk => .inl hk) hF hK⟩
theorem do_farText (init : List Part) (p : Part) (s : ByteArray) (place : Int) (h : DS w0 w a r x v o W (init ++ [p]) L F) (hp : place + s.size ≤ 9223372036854775807) :
    Calls Try.prog 16 #[.pointer (some ⟨a, 0, none⟩), .string s, .int .i64 place] w fun e w' => e = .returned (.bool (if place < 0 then false else textB W s.data.toList place)) ∧ DS w0 w' a r x v o W (init ++ [if place < 0 then p else textP W p s.data.toList place]) L F := by
  by_cases h0 : place < 0
  · rw [if_pos h0, if_pos h0]
    obtain ⟨Ha, Hr, h1⟩ := h
    refine (far_Text_neg w s place h1.fa h0).mono ?_
    rintro e w' ⟨rfl, rfl⟩
    exact ⟨rfl, ⟨Ha, Hr, h1⟩⟩
  · rw [if_neg h0, if_neg h0]
    obtain ⟨Ha, Hr, h⟩ := h
    refine (far_Text w s place h.fa (by omega) hp).mono ?_
    rintro e w' ⟨rfl, hF, hK⟩
    exact ⟨rfl, h.far (fun _ hk => .inl hk) hF hK⟩
theorem do_farBegin (init : List Part) (p : Part) (h : DS w0 w a r x v o W (init ++ [p]) L F) (hn : init.length ≤ 900000) :
    Calls Try.prog 14 #[.pointer (some ⟨a, 0, none⟩)] w fun e w' => e = .returned (.int .i64 ((init.length : Int) + 1)) ∧ DS w0 w' a r x v o W (init ++ [p] ++ [(-1, clNone)]) L F := by
  obtain ⟨Ha, Hr, h⟩ := h
  refine (far_Begin w h.fa hn).mono ?_
  rintro e w' ⟨rfl, hF, hK⟩
  exact ⟨rfl, h.far (fun _ hk => hk.imp_right (fun h => h.1)) hF hK⟩
theorem do_farEnd (init : List Part) (q p : Part) (h : DS w0 w a r x v o W (init ++ [q] ++ [p]) L F) (hn : init.length ≤ 900000) (hp : p = (-1, clNone) ∨ 0 ≤ p.1) :
    Calls Try.prog 15 #[.pointer (some ⟨a, 0, none⟩)] w fun e w' => e = .returned (.tuple #[.int .i64 p.1, .int .i64 0]) ∧ DS w0 w' a r x v o W (init ++ [endP q p]) L F := by
  obtain ⟨Ha, Hr, h⟩ := h
  refine (far_End w h.fa hn hp).mono ?_
  rintro e w' ⟨rfl, hF, hK⟩
  exact ⟨rfl, h.far (fun _ hk => .inl hk) hF hK⟩
theorem do_farEnd_one (p : Part) (h : DS w0 w a r x v o W ([] ++ [p]) L F) :
    Calls Try.prog 15 #[.pointer (some ⟨a, 0, none⟩)] w fun e w' => e = .returned (.tuple #[.int .i64 0, .int .i64 5]) ∧ DS w0 w' a r x v o W ([] ++ [p]) L F := by
  obtain ⟨Ha, Hr, h⟩ := h
  refine (far_End_one w h.fa).mono ?_
  rintro e w' ⟨rfl, rfl⟩
  exact ⟨rfl, ⟨Ha, Hr, h⟩⟩
theorem do_farFar (init : List Part) (p : Part) (h : DS w0 w a r x v o W (init ++ [p]) L F) :
    Calls Try.prog 12 #[.pointer (some ⟨a, 0, none⟩)] w fun e w' => e = .returned (.int .i64 p.1) ∧ DS w0 w' a r x v o W (init ++ [p]) L F := by
  obtain ⟨Ha, Hr, h1⟩ := id h
  refine (far_Far w h1.fa).mono ?_
  rintro e w' ⟨rfl, hb⟩
  exact ⟨rfl, h.later hb⟩
theorem do_farHoped (init : List Part) (p : Part) (h : DS w0 w a r x v o W (init ++ [p]) L F) :
    Calls Try.prog 13 #[.pointer (some ⟨a, 0, none⟩)] w fun e w' => e = .returned (clv p.2) ∧ DS w0 w' a r x v o W (init ++ [p]) L F := by
  obtain ⟨Ha, Hr, h1⟩ := id h
  refine (far_Hoped w h1.fa).mono ?_
  rintro e w' ⟨rfl, hb⟩
  exact ⟨rfl, h.later hb⟩

variable {ps : List Part}
theorem do_docSet (c : Nat → Bool) (place : Int) (h : DS w0 w a r x v o W ps L F) (hn : L.length ≤ 1000000) :
    Calls Try.prog 25 #[.pointer (some ⟨r, 0, none⟩), clv c, .int .i64 place] w fun e w' => e = .returned (.bool (thereB W c place)) ∧ DS w0 w' a r x v o W ps (askL W L c place) F := by
  obtain ⟨Ha, Hr, h⟩ := h
  refine (doc_Set w c place h.fr (h.inp.later h.bel) hn).mono ?_
  rintro e w' ⟨rfl, hR⟩
  exact ⟨rfl, h.ref hR⟩
theorem do_docAny (place : Int) (h : DS w0 w a r x v o W ps L F) (hn : L.length ≤ 1000000) :
    Calls Try.prog 24 #[.pointer (some ⟨r, 0, none⟩), .int .i64 place] w fun e w' => e = .returned (.bool (thereB W (clNot clNone) place)) ∧ DS w0 w' a r x v o W ps (askL W L (clNot clNone) place) F := by
  obtain ⟨Ha, Hr, h⟩ := h
  refine (doc_Any w place h.fr (h.inp.later h.bel) hn).mono ?_
  rintro e w' ⟨rfl, hR⟩
  exact ⟨rfl, h.ref hR⟩
theorem do_docMiss (c : Nat → Bool) (place : Int) (h : DS w0 w a r x v o W ps L F) (hn : L.length ≤ 1000000) :
    Calls Try.prog 30 #[.pointer (some ⟨r, 0, none⟩), .int .i64 place, clv c] w fun e w' => e = .returned (.tuple #[]) ∧ DS w0 w' a r x v o W ps (if place < 0 then L else L ++ [(place, c)]) F := by
  by_cases h0 : place < 0
  · rw [if_pos h0]
    refine (doc_Miss_neg w c place h0).mono ?_
    rintro e w' ⟨rfl, hb⟩
    exact ⟨rfl, h.later hb⟩
  · rw [if_neg h0]
    obtain ⟨Ha, Hr, h⟩ := h
    refine (ref_Miss w c place h.fr (by omega) hn).mono ?_
    rintro e w' ⟨rfl, hR, hK⟩
    exact ⟨rfl, h.ref ⟨_, fun k hk => hk.imp_right (fun h => h.1), hR, hK⟩⟩
theorem do_docText (s : ByteArray) (place : Int) (h : DS w0 w a r x v o W ps L F) (hn : L.length ≤ 1000000) (hp : place + s.size ≤ 9223372036854775807) :
    Calls Try.prog 26 #[.pointer (some ⟨r, 0, none⟩), .string s, .int .i64 place] w fun e w' => e = .returned (.bool (if place < 0 then false else textB W s.data.toList place)) ∧ DS w0 w' a r x v o W ps (if place < 0 then L else textL W L s.data.toList place) F := by
  by_cases h0 : place < 0
  · rw [if_pos h0, if_pos h0]
    refine (doc_Text_neg w s place h0).mono ?_
    rintro e w' ⟨rfl, rfl⟩
    exact ⟨rfl, h⟩
  · rw [if_neg h0, if_neg h0]
    obtain ⟨Ha, Hr, h⟩ := h
    refine (doc_Text w s place h.fr (h.inp.later h.bel) hn (by omega) hp).mono ?_
    rintro e w' ⟨rfl, hR⟩
    exact ⟨rfl, h.ref hR⟩
theorem do_docBegin (h : DS w0 w a r x v o W ps L F) (hn : L.length ≤ 1000000) (hn2 : F.length ≤ 1000000) :
    Calls Try.prog 27 #[.pointer (some ⟨r, 0, none⟩)] w fun e w' => e = .returned (.int .i64 ((F.length : Int) + 1)) ∧ DS w0 w' a r x v o W ps L (F ++ [L.length]) := by
  obtain ⟨Ha, Hr, h⟩ := h
  refine (doc_Begin w h.fr hn hn2).mono ?_
  rintro e w' ⟨rfl, hR⟩
  exact ⟨rfl, h.ref hR⟩
theorem do_docEnd_none (h : DS w0 w a r x v o W ps L []) :
    Calls Try.prog 28 #[.pointer (some ⟨r, 0, none⟩)] w fun e w' => e = .returned (.tuple #[.int .i64 0, .int .i64 5]) ∧ DS w0 w' a r x v o W ps L [] := by
  obtain ⟨Ha, Hr, h1⟩ := id h
  refine (doc_End_none w h1.fr).mono ?_
  rintro e w' ⟨rfl, hb⟩
  exact ⟨rfl, h.later hb⟩
theorem do_docEnd (n : Nat) (h : DS w0 w a r x v o W ps L (F ++ [n])) (hF : ∀ n' ∈ F ++ [n], n' ≤ L.length) (hn : L.length ≤ 1000000) (hn2 : F.length ≤ 900000) :
    Calls Try.prog 28 #[.pointer (some ⟨r, 0, none⟩)] w fun e w' => e = .returned (.tuple #[.int .i64 (maxM (partL L (F ++ [n]))), .int .i64 0]) ∧ DS w0 w' a r x v o W ps L F := by
  obtain ⟨Ha, Hr, h⟩ := h
  refine (doc_End w h.fr hF hn hn2).mono ?_
  rintro e w' ⟨rfl, hR⟩
  exact ⟨rfl, h.ref hR⟩
theorem do_docFar (h : DS w0 w a r x v o W ps L F) (hF : ∀ n ∈ F, n ≤ L.length) (hn : L.length ≤ 1000000) (hn2 : F.length ≤ 1000000) :
    Calls Try.prog 31 #[.pointer (some ⟨r, 0, none⟩)] w fun e w' => e = .returned (.int .i64 (maxM (partL L F))) ∧ DS w0 w' a r x v o W ps L F := by
  obtain ⟨Ha, Hr, h1⟩ := id h
  refine (doc_Far w h1.fr hF hn hn2).mono ?_
  rintro e w' ⟨rfl, hb⟩
  exact ⟨rfl, h.later hb⟩
theorem do_docHoped (h : DS w0 w a r x v o W ps L F) (hF : ∀ n ∈ F, n ≤ L.length) (hn : L.length ≤ 1000000) (hn2 : F.length ≤ 1000000) :
    Calls Try.prog 32 #[.pointer (some ⟨r, 0, none⟩)] w fun e w' => e = .returned (clv (hopM (partL L F) (maxM (partL L F)))) ∧ DS w0 w' a r x v o W ps L F := by
  obtain ⟨Ha, Hr, h1⟩ := id h
  refine (doc_Hoped w h1.fr hF hn hn2).mono ?_
  rintro e w' ⟨rfl, hb⟩
  exact ⟨rfl, h.later hb⟩
end
end Go.Proofs.Ytfhgmnlhmfnckaa
