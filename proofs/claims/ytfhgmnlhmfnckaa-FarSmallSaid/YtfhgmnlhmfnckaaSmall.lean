/-
  Chapter far: FarSmall: deeds in a row of one's own; tables; a region's world class made narrower.
-/
import Derived.Test.YtfhgmnlhmfnckaaDoC
import Derived.Test.YtfhgmnlhmfnckaaNone
import Derived.Deep.RegionHeld
import Derived.Deep.AppendLies
namespace Go.Proofs.Ytfhgmnlhmfnckaa
open Go.RowKit Go.Lib

def dcells (l : List Deed) : List Value := l.flatMap deedc
theorem dcells_len (l : List Deed) : (dcells l).length = l.length * 7 := by
  induction l with
  | nil => rfl
  | cons d r ih => 
    have : (dcells (d :: r)).length = (deedc d).length + (dcells r).length := by simp [dcells]
    rw [this, ih]
    simp [deedc]
    omega
theorem dcells_snoc (l : List Deed) (d : Deed) : dcells (l ++ [d]) = dcells l ++ deedc d := by simp [dcells]
theorem dcells_get : ∀ (l : List Deed) (i : Nat) (h : i < l.length) (j : Nat), j < 7 → (dcells l)[i * 7 + j]? = (deedc l[i])[j]?
  | d :: r, 0, _, j, hj => by
    have : dcells (d :: r) = deedc d ++ dcells r := by simp [dcells]
    rw [this, List.getElem?_append_left (by simp [deedc]; omega)]
    simp
  | d :: r, i + 1, h, j, hj => by
    have : dcells (d :: r) = deedc d ++ dcells r := by simp [dcells]
    rw [this, List.getElem?_append_right (by simp [deedc]; omega)]
    have e : (i + 1) * 7 + j - (deedc d).length = i * 7 + j := by simp [deedc]; omega
    rw [e, dcells_get r i (by simpa using h) j hj]
    simp
theorem deedc_one (d : Deed) : ∀ u ∈ deedc d, u.oneCell' = true := by
  intro u hu
  simp only [deedc, List.mem_cons, List.not_mem_nil, or_false] at hu
  rcases hu with rfl | rfl | rfl | rfl | rfl | rfl | rfl <;> rfl
theorem own_deeds {w : World} {B : Nat} {v : Value} {l : List Deed} (h : w.ownsRow B 55 7 v l.length (dcells l)) (ho : ∀ d ∈ l, DeedOk d) : DeedsAt w v l := by
  refine ⟨?_, ho⟩
  rcases h.2 with ⟨rfl, h0⟩ | ⟨g, cap, cur, rfl, hbg, hg, hnc, hcm, hcs, htake⟩
  · refine ⟨none, 0, 0, 0, by simp [h0], by simp [h0], by unfold maxLen; omega, fun _ => ⟨by simp [h0], rfl⟩, fun h => by simp [h0] at h, fun e he => ?_, fun i hi => by simp [h0] at hi⟩
    obtain ⟨d, _, rfl⟩ := List.mem_map.1 he
    rfl
  · refine ⟨_, g, 0, cap, by simp, by simpa using hnc, hcm, fun h => by simp at h, fun _ => ⟨rfl, lt_of_block hg⟩, fun e he => ?_, fun i hi j hj => ?_⟩
    · obtain ⟨d, _, rfl⟩ := List.mem_map.1 he
      rfl
    · simp only [List.length_map] at hi
      rw [Nat.zero_add, h.cellAt (i * 7 + j) (by omega), dcells_get l i hi j hj]
      simp
theorem block_deeds {w : World} {x : Nat} {l : List Deed} (h : w.heap[x]? = some (.cells (dcells l).toArray 55 (0, 0))) (hm : l.length ≤ 1000) (ho : ∀ d ∈ l, DeedOk d) : DeedsAt w (.slice (some ⟨x, 0, none⟩) l.length l.length) l := by
  refine ⟨⟨_, x, 0, l.length, by simp, by simp, by unfold maxLen; omega, fun h => by simp at h, fun _ => ⟨rfl, lt_of_block h⟩, fun e he => ?_, fun i hi j hj => ?_⟩, ho⟩
  · obtain ⟨d, _, rfl⟩ := List.mem_map.1 he
    rfl
  · simp only [List.length_map] at hi
    rw [Nat.zero_add, (block_cell' h (i * 7 + j)).1]
    have e : (dcells l).toArray[i * 7 + j]? = (dcells l)[i * 7 + j]? := by simp
    rw [e, dcells_get l i hi j hj]
    simp

/-- a region's class of worlds is made narrower. -/
theorem wpAnyH_less {P : Program} {md : Region.Mode} {ops : Array Oper} {Q : Exit → Act → World → Prop} {S S' : World → Prop} (hs : ∀ w, S' w → S w) :
    ∀ (fuel : Nat) (listed : Array Bool) (a : Act) (w : World), wpAnyH P md ops Q S' fuel listed a w → wpAnyH P md ops Q S fuel listed a w
  | 0, _, _, _, h => h
  | fuel + 1, _, _, _, h => ⟨h.1, fun i hi => wpOp_mono (fun a' w' h' => ⟨hs w' h'.1, wpAnyH_less hs fuel _ a' w' h'.2⟩) (h.2 i hi)⟩
theorem wpAnyH_narrow {P : Program} {md : Region.Mode} {ops : Array Oper} {Q : Exit → Act → World → Prop} {S : World → Prop} (S' : World → Prop) {fuel : Nat} {listed : Array Bool} {a : Act} {w : World} (hs : ∀ w, S' w → S w) (hS : S' w)
    (h : S' w → wpAnyH P md ops Q S' fuel listed a w) : wpAnyH P md ops Q S fuel listed a w := wpAnyH_less hs fuel listed a w (h hS)

/-- a table of four texts. -/
def tabO (s : Nat → ByteArray) : Obj := .cells #[.string (s 0), .string (s 1), .string (s 2), .string (s 3)] 9 (0, 0)
theorem tab_cell {w : World} {x : Nat} {s : Nat → ByteArray} (h : w.heap[x]? = some (tabO s)) {i : Nat} (hi : i < 4) : w.cell? ⟨x, i, none⟩ = some (.string (s i)) := by
  rw [(block_cell' h i).1]
  rcases (by omega : i = 0 ∨ i = 1 ∨ i = 2 ∨ i = 3) with rfl | rfl | rfl | rfl <;> rfl
def tabA : Nat → ByteArray := fun i => if i = 0 then ⟨#[]⟩ else if i = 1 then ⟨#[97]⟩ else if i = 2 then ⟨#[98, 99]⟩ else ⟨#[255, 0]⟩
def tabB : Nat → ByteArray := fun i => if i = 0 then ⟨#[97, 98]⟩ else if i = 1 then ⟨#[98]⟩ else if i = 2 then ⟨#[]⟩ else ⟨#[98, 99, 97]⟩
theorem tabA_size (i : Nat) : (tabA i).size ≤ 3 := by
  unfold tabA
  split
  · decide
  · split
    · decide
    · split <;> decide
theorem tabB_size (i : Nat) : (tabB i).size ≤ 3 := by
  unfold tabB
  split
  · decide
  · split
    · decide
    · split <;> decide
theorem abc_bytes {w : World} {x : Nat} {fr : Nat × Nat} (h : w.heap[x]? = some (.cells #[.int .u8 97, .int .u8 98, .int .u8 99] 5 fr)) : BytesAt w (.slice (some ⟨x, 0, none⟩) 3 3) [97, 98, 99] := by
  refine ⟨_, x, 0, 3, rfl, by decide, by unfold maxLen; omega, (fun h => by cases h), fun _ => rfl, fun k hk => ?_⟩
  have hk' : k < 3 := hk
  rw [cell_of_row w x (0 + k) _ _ _ h]
  rcases (by omega : k = 0 ∨ k = 1 ∨ k = 2) with rfl | rfl | rfl <;> rfl
theorem nil_bytes (w : World) : BytesAt w (.slice none 0 0) [] := ⟨none, 0, 0, 0, rfl, by decide, by unfold maxLen; omega, fun _ => ⟨rfl, rfl⟩, fun h => by simp at h, fun k hk => by simp at hk⟩
theorem wpAnyH_gen {P : Program} {md : Region.Mode} {ops : Array Oper} {Q : Exit → Act → World → Prop} {S S' T : World → Prop} {fuel : Nat} {listed : Array Bool} {a : Act} {w : World} (hs : ∀ w, S' w → S w) (hT : T w)
    (h : ∀ w', T w' → wpAnyH P md ops Q S' fuel listed a w') : wpAnyH P md ops Q S fuel listed a w := wpAnyH_less hs fuel listed a w (h w hT)
/-- the two tables, as far as they are made. -/
structure TT (o1 o2 : Option Nat) (w : World) : Prop where
  ta : ∀ x, o1 = some x → w.heap[x]? = some (tabO tabA)
  tb : ∀ x, o2 = some x → w.heap[x]? = some (tabO tabB)
theorem TT.later {o1 o2 : Option Nat} {w w' : World} (h : TT o1 o2 w) (hb : Below w.heap.size w w') : TT o1 o2 w' :=
  ⟨fun x hx => (hb.block _ (lt_of_block (h.ta x hx))).trans (h.ta x hx), fun x hx => (hb.block _ (lt_of_block (h.tb x hx))).trans (h.tb x hx)⟩
theorem TT.less1 {o2 : Option Nat} {x : Nat} (w : World) (h : TT (some x) o2 w) : TT none o2 w := ⟨fun x hx => by simp at hx, h.tb⟩
theorem TT.less2 {o1 : Option Nat} {x : Nat} (w : World) (h : TT o1 (some x) w) : TT o1 none w := ⟨h.ta, fun x hx => by simp at hx⟩
structure RG (wr w : World) (o1 o2 : Option Nat) : Prop where
  bel : Below wr.heap.size wr w
  tt : TT o1 o2 w
  old : (∀ x, o1 = some x → wr.heap.size ≤ x) ∧ ∀ x, o2 = some x → wr.heap.size ≤ x
theorem RG.later {wr w w' : World} {o1 o2 : Option Nat} (h : RG wr w o1 o2) (hb : Below w.heap.size w w') : RG wr w' o1 o2 := ⟨h.bel.trans (hb.mono h.bel.size), h.tt.later hb, h.old⟩
theorem RG.start (wr : World) : RG wr wr.drew none none := ⟨(Below.refl _ _).drew, ⟨fun x hx => by simp at hx, fun x hx => by simp at hx⟩, fun x hx => by simp at hx, fun x hx => by simp at hx⟩
theorem RG.allocA {wr w : World} {o2 : Option Nat} (h : RG wr w none o2) : RG wr (w.alloc (tabO tabA)) (some w.heap.size) o2 := by
  have h2 := h.later ((Below.refl _ _).alloc (Nat.le_refl _) (tabO tabA))
  exact ⟨h2.bel, ⟨fun x hx => by cases hx; exact heap_alloc_new _ _, h2.tt.tb⟩, fun x hx => by cases hx; exact h.bel.size, h.old.2⟩
theorem RG.allocB {wr w : World} {o1 : Option Nat} (h : RG wr w o1 none) : RG wr (w.alloc (tabO tabB)) o1 (some w.heap.size) := by
  have h2 := h.later ((Below.refl _ _).alloc (Nat.le_refl _) (tabO tabB))
  exact ⟨h2.bel, ⟨h2.tt.ta, fun x hx => by cases hx; exact heap_alloc_new _ _⟩, h.old.1, fun x hx => by cases hx; exact h.bel.size⟩
theorem RG.grown {wr w w' : World} {o1 o2 : Option Nat} {row : Option Nat} (h : RG wr w o1 o2) (hg : w.grownBy w' row) (hr : ∀ k, row = some k → k < wr.heap.size) : TT o1 o2 w' :=
  ⟨fun x hx => (hg.block _ (lt_of_block (h.tt.ta x hx)) (fun e => by have := hr x e.symm; have := h.old.1 x hx; omega)).trans (h.tt.ta x hx),
   fun x hx => (hg.block _ (lt_of_block (h.tt.tb x hx)) (fun e => by have := hr x e.symm; have := h.old.2 x hx; omega)).trans (h.tt.tb x hx)⟩
theorem law_ofA (w : World) (s : ByteArray) (hs : s.size ≤ 1000000) :
    Calls Try.prog 17 #[.string s] w fun e w' => e = .returned (.agg #[.int .u64 (word (clOf s.data.toList) 0), .int .u64 (word (clOf s.data.toList) 1), .int .u64 (word (clOf s.data.toList) 2), .int .u64 (word (clOf s.data.toList) 3)]) ∧ Below w.heap.size w w' := law_of w s hs
theorem Try.infoDeed : (Try.prog.info? 55).map (fun i => (i.zero, i.size, i.bytes)) = some (some (.agg #[.int .i64 0, .int .i64 0, .int .u64 0, .int .u64 0, .int .u64 0, .int .u64 0, .string ⟨#[]⟩]), 7, 64) := by kernel_rfl
theorem own_lt {w : World} {base n size : Nat} {e : TypeId} {v : Value} {xs : List Value} (h : w.ownsRow base e size v n xs) : ∀ k, v.ownBlock = some k → base ≤ k ∧ k < w.heap.size := by
  intro k hk
  rcases h.2 with ⟨rfl, _⟩ | ⟨g, cap, cur, rfl, hb, hg, _⟩
  · simp [Value.ownBlock] at hk
  · simp only [Value.ownBlock, Option.some.injEq] at hk
    subst hk
    exact ⟨hb, lt_of_block hg⟩
/-- what a round of FarSmall's inner loop leaves. -/
theorem round_close {w wr wx w2 : World} {lv : Value} {l : List Deed} {d : Deed} {g cap : Nat} {o : Obj} {k : Nat} (hk : l.length = k) (hW : Below w.heap.size w wr) (hown : wr.ownsRow w.heap.size 55 7 lv k (dcells l)) (hb : Below wr.heap.size wr wx)
    (hown2 : w2.ownsRow w.heap.size 55 7 (.slice (some ⟨g, 0, none⟩) (k + 1) cap) (k + 1) (dcells l ++ deedc d)) (hgrow : (wx.alloc o).grownBy w2 lv.ownBlock) :
    Below w.heap.size w w2 ∧ w2.ownsRow w.heap.size 55 7 (.slice (some ⟨g, 0, none⟩) (k + 1) cap) (k + 1) (dcells (l ++ [d])) := by
  subst hk
  refine ⟨?_, by rw [dcells_snoc]; exact hown2⟩
  have h1 : Below w.heap.size w (wx.alloc o) := (hW.trans (hb.mono hW.size)).alloc (hW.trans (hb.mono hW.size)).size _
  have hK : Keeps (fun k => w.heap.size ≤ k) w w2 := (Keeps.ofBelow h1).grown hgrow (fun k hk => (own_lt hown k hk).1)
  exact hK.below (Nat.le_refl _) (fun k hk => hk)
/-- the places about the ends. -/
def ends : Nat → Int := fun i => if i = 0 then -9223372036854775808 else if i = 1 then 4611686018427387904 else if i = 2 then 4611686018427387903 else -1
def endsO : Obj := .cells #[.int .i64 (-9223372036854775808), .int .i64 4611686018427387904, .int .i64 4611686018427387903, .int .i64 (-1)] 3 (0, 0)
theorem ends_cell {w : World} {x : Nat} (h : w.heap[x]? = some endsO) {i : Nat} (hi : i < 4) : w.cell? ⟨x, i, none⟩ = some (.int .i64 (ends i)) := by
  rw [(block_cell' h i).1]
  rcases (by omega : i = 0 ∨ i = 1 ∨ i = 2 ∨ i = 3) with rfl | rfl | rfl | rfl <;> rfl
theorem ends_range {i : Nat} : -9223372036854775808 ≤ ends i ∧ ends i ≤ 9223372036854775807 := by
  unfold ends
  split
  · omega
  · split
    · omega
    · split <;> omega
def endsL (e : Int) : List Deed := [⟨0, e, clNone, ⟨#[]⟩⟩, ⟨2, e, clNone, ⟨#[97, 98]⟩⟩, ⟨5, e, clOf [120], ⟨#[]⟩⟩, ⟨3, 0, clNone, ⟨#[]⟩⟩, ⟨1, e, clNone, ⟨#[]⟩⟩, ⟨4, 0, clNone, ⟨#[]⟩⟩, ⟨4, 0, clNone, ⟨#[]⟩⟩]
theorem endsL_ok {e : Int} (h : -9223372036854775808 ≤ e ∧ e ≤ 9223372036854775807) : ∀ d ∈ endsL e, DeedOk d := by
  intro d hd
  simp only [endsL, List.mem_cons, List.not_mem_nil, or_false] at hd
  obtain ⟨h1, h2⟩ := h
  rcases hd with rfl | rfl | rfl | rfl | rfl | rfl | rfl <;> (unfold DeedOk; dsimp only; refine ⟨⟨by omega, by omega⟩, ⟨by omega, by omega⟩, by decide⟩)
end Go.Proofs.Ytfhgmnlhmfnckaa
