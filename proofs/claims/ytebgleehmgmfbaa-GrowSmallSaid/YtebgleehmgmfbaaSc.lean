/-
  What is found is the same; a script in memory.
-/
import Derived.Test.YtebgleehmgmfbaaTws
namespace Go.Proofs.Ytebgleehmgmfbaa
open Go.RowKit Go.Lib

set_option maxHeartbeats 2000000 in
theorem sameFound_any (is : Bool) (en far : Int) (v v' : Value) (t : List Tw) (w : World) (h : TwAt w v t) (h' : TwAt w v' t) :
    Calls Try.prog 16 #[.agg #[.bool is, .int .i64 en, .int .i64 far, v], .agg #[.bool is, .int .i64 en, .int .i64 far, v']] w fun e w' => e = .returned (.bool true) ∧ Below w.heap.size w w' := by
  have H := Lib.hid h
  have H' := Lib.hid h'
  obtain ⟨ao, cap, rfl⟩ := h.val
  obtain ⟨ao', cap', rfl⟩ := h'.val
  clear h h'
  go_enter Try.func16, Try.ntmps16
  go_upto_region 1 with (fail)
  refine gen_world (S := fun u => Below w.heap.size w u ∧ u.heap[w.heap.size]? = some (.cells #[.bool is, .int .i64 en, .int .i64 far, .slice ao t.length cap] 38 (0, 0)) ∧ u.heap[w.heap.size + 1]? = some (.cells #[.bool is, .int .i64 en, .int .i64 far, .slice ao' t.length cap'] 38 (0, 0))) (two_new w _ _) (fun u hu => ?_)
  obtain ⟨hb, h1, h2⟩ := hu
  obtain ⟨c0, c1, c2, c3, -, -, -, -⟩ := four_box h1
  obtain ⟨d0, d1, d2, d3, -, -, -, -⟩ := four_box h2
  have Hu := Lib.hid (H.out.later hb)
  have Hu' := Lib.hid (H'.out.later hb)
  have Hb := Lib.hid hb
  clear h1 h2 hb
  have hbb : (is == is) = true := by cases is <;> rfl
  go_wp2_with fail
  refine (sameTwigs_any _ _ t u Hu.out Hu'.out).mono ?_
  rintro e w2 ⟨rfl, hb2⟩
  have Hb2 := Lib.hid hb2
  clear hb2 c0 c1 c2 c3 d0 d1 d2 d3
  go_wp2
  go_ret
  exact ⟨rfl, Hb.out.trans (Hb2.out.mono Hb.out.size)⟩

/-- all that a growth may write, but for what is new. -/
def TT : List TypeId := [67, 88, 35, 51, 36, 77]
/-- the answers stay, whatever a growth does. -/
def AnsS [Watch] (base : Nat) (w : World) (v : Value) (l : List An) : Prop := ∀ w', KeepT base TT true w w' → AnsAt w' v l
theorem AnsS.at [Watch] {base : Nat} {w : World} {v : Value} {l : List An} (h : AnsS base w v l) : AnsAt w v l := h w (Keeps.refl _ _)
theorem AnsS.keep [Watch] {base : Nat} {w w' : World} {v : Value} {l : List An} (h : AnsS base w v l) (hk : KeepT base TT true w w') : AnsS base w' v l := fun w2 h2 => h w2 (KeepT.trans hk h2)
theorem AnsS.later [Watch] {base : Nat} {w w' : World} {v : Value} {l : List An} (h : AnsS base w v l) (hb : Below w.heap.size w w') : AnsS base w' v l := h.keep (KeepT.ofBelow hb)
theorem AnsAt.stay [Watch] {w : World} {v : Value} {l : List An} (h : AnsAt w v l) : AnsS w.heap.size w v l := fun _ hk => h.later (KeepT.below hk (Nat.le_refl _))

abbrev Rd := Int × Int × Int
def rdc (r : Rd) : List Value := [.int .i64 r.1, .int .i64 r.2.1, .int .i64 r.2.2]
abbrev Lnt := Nat × List Tw
def lntv (x : Lnt) : Value := .slice (some ⟨x.1, 0, none⟩) x.2.length (x.2.length + 12)
/-- a script in memory. -/
structure ScIs [Watch] (base : Nat) (w : World) (sb s : Nat) (p : Pr) (lev : Int) (av rv lv : Value) (rds : List Rd) (gl : List Lnt) (ok : Bool) : Prop where
  blk : w.heap[sb]? = some (.cells #[.pointer (some ⟨s, 0, none⟩), .int .i64 p.1, .int .i64 p.2, .int .i64 lev, av, rv, lv, .bool ok] 35 (0, 0))
  row : w.ownsRow base 51 3 rv rds.length (rds.flatMap rdc)
  lnt : w.ownsRow base 36 1 lv gl.length (gl.map lntv)
  lents : ∀ x ∈ gl, TLentAt w x.1 x.2
  far : ∀ x ∈ gl, base ≤ x.1
  apart : gl.Pairwise fun a b => a.1 ≠ b.1
  bs : base ≤ sb
  nw : ¬ Watch.W sb
  nr : ∀ k, rv.ownBlock = some k → ¬ Watch.W k
  nl : ∀ k, lv.ownBlock = some k → ¬ Watch.W k
  wl : ∀ k, Watch.W k → k < w.heap.size
  le1 : rds.length ≤ 100000
  le2 : gl.length ≤ 100000
theorem ScIs.keepT [Watch] {base B : Nat} {T : List TypeId} {mp : Bool} {w w' : World} {sb s : Nat} {p : Pr} {lev : Int} {av rv lv : Value} {rds : List Rd} {gl : List Lnt} {ok : Bool} (h : ScIs base w sb s p lev av rv lv rds gl ok) (hk : KeepT B T mp w w') (h1 : 35 ∉ T) (h2 : 51 ∉ T) (h3 : 36 ∉ T) (h4 : 60 ∉ T) : ScIs base w' sb s p lev av rv lv rds gl ok := by
  have hrow : ∀ {e : TypeId} {C n : Nat} {v : Value} {xs : List Value}, e ∉ T → w.ownsRow base e C v n xs → w'.ownsRow base e C v n xs := fun {e C n v xs} he hr => by
    refine Keeps.row hk hr fun k hkk hS => ?_
    rcases hr.2 with ⟨rfl, _⟩ | ⟨g, cap, cur, rfl, _, hg, _⟩
    · simp [Value.ownBlock] at hkk
    · simp [Value.ownBlock] at hkk
      subst hkk
      have := hS.2
      unfold Tyb at this
      rw [hg] at this
      exact he this.1
  exact ⟨hk.cells h.blk h1, hrow h2 h.row, hrow h3 h.lnt, fun x hx => hk.cells (h.lents x hx) h4, h.far, h.apart, h.bs, h.nw, h.nr, h.nl, fun k hk2 => Nat.lt_of_lt_of_le (h.wl k hk2) hk.size, h.le1, h.le2⟩
theorem ScIs.later [Watch] {base : Nat} {w w' : World} {sb s : Nat} {p : Pr} {lev : Int} {av rv lv : Value} {rds : List Rd} {gl : List Lnt} {ok : Bool} (h : ScIs base w sb s p lev av rv lv rds gl ok) (hb : Below w.heap.size w w') : ScIs base w' sb s p lev av rv lv rds gl ok := by
  refine h.keepT (B := 0) (T := []) (mp := true) ?_ (by simp) (by simp) (by simp) (by simp)
  exact KeepT.ofBelow hb
theorem ScIs.cells [Watch] {base : Nat} {w : World} {sb s : Nat} {p : Pr} {lev : Int} {av rv lv : Value} {rds : List Rd} {gl : List Lnt} {ok : Bool} (h : ScIs base w sb s p lev av rv lv rds gl ok) :
    w.cell? ⟨sb, 0, none⟩ = some (.pointer (some ⟨s, 0, none⟩)) ∧ w.cell? ⟨sb, 1, none⟩ = some (.int .i64 p.1) ∧ w.cell? ⟨sb, 2, none⟩ = some (.int .i64 p.2) ∧ w.cell? ⟨sb, 3, none⟩ = some (.int .i64 lev) ∧ w.cell? ⟨sb, 4, none⟩ = some av ∧ w.cell? ⟨sb, 5, none⟩ = some rv ∧ w.cell? ⟨sb, 6, none⟩ = some lv ∧ w.cell? ⟨sb, 7, none⟩ = some (.bool ok) ∧
    w.frozen? ⟨sb, 5, none⟩ = false ∧ w.frozen? ⟨sb, 6, none⟩ = false ∧ w.frozen? ⟨sb, 7, none⟩ = false := by
  simp [World.cell?, World.frozen?, h.blk]
end Go.Proofs.Ytebgleehmgmfbaa
