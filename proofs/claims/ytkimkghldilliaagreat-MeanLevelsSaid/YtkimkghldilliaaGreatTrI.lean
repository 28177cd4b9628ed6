/-
  tree: what is told of a forest; Roots, Kids, Size, Parent.
-/
import Derived.Test.YtkimkghldilliaaGreatTrH
namespace Go.Proofs.YtkimkghldilliaaGreat
open Go.RowKit Go.Lib

def topR (l : List Tw) : List Nat := if rightB l = true then (rootsL l l.length 0).getD [] else []
def hasR (l : List Tw) (n : Int) : Bool := decide (0 ≤ n ∧ n < l.length) && rightB l
def kidR (l : List Tw) (n : Nat) : List Nat := (rowL l (atT l n).kids.toNat (n + 1)).getD []
def kidsR (l : List Tw) (n : Int) : List Nat := if hasR l n = true then kidR l n.toNat else []
def sizR (l : List Tw) (n : Int) : Nat := if hasR l n = true then aN l n.toNat - n.toNat else 0
def parF (l : List Tw) (n : Nat) : Option Nat := (List.range n).reverse.find? fun p => decide (n < aN l p)
def parV (l : List Tw) (n : Int) : Value := if hasR l n = true then (match parF l n.toNat with
  | some p => .tuple #[.int .i64 (p : Int), .bool true]
  | none => .tuple #[.int .i64 0, .bool false]) else .tuple #[.int .i64 0, .bool false]
def heiR (l : List Tw) : Nat := if rightB l = true then mxd l 0 l.length else 0
def pathR (l : List Tw) (pl : Int) : List Nat := if rightB l = true then onP l pl 0 l.length else []
theorem topR_of {l : List Tw} {lo hi a : Int} {rs : List Nat} (h : rightB l = true) (hF : For l lo hi a 0 l.length rs) : topR l = rs := by
  unfold topR
  rw [if_pos h, hF.rootsL rfl _ (by have := hF.len_le; omega)]
  rfl
theorem kidR_of {l : List Tw} {n m : Nat} {ks : List Nat} (h : Sub l n m ks) : kidR l n = ks := by
  unfold kidR
  obtain ⟨h1, h2, h3, h4⟩ := h
  rw [show (atT l n).kids.toNat = ks.length from by omega, h4.rowL]
  rfl
theorem RightP.sub {l : List Tw} (h : RightP l) {n : Nat} (hn : n < l.length) : ∃ m ks, Sub l n m ks := by
  obtain ⟨rs, h⟩ := h
  obtain ⟨m, ks, hs, -⟩ := h.sub n (Nat.zero_le _) hn
  exact ⟨m, ks, hs⟩
theorem parF_some {l : List Tw} {n p : Nat} (hp : p < n) (h : n < aN l p) (hq : ∀ q, p < q → q < n → aN l q ≤ n) : parF l n = some p := by
  unfold parF
  induction n with
  | zero => omega
  | succ n ih =>
    clear ih
    have key : ∀ k, p < k → k ≤ n + 1 → (List.range k).reverse.find? (fun p => decide (n + 1 < aN l p)) = some p := fun k => by
      induction k with
      | zero => intro h; omega
      | succ k ih =>
        intro h1 h2
        rw [List.range_succ, List.reverse_append, List.reverse_singleton, List.singleton_append, List.find?_cons]
        by_cases hk : k = p
        · subst hk; simp [h]
        · have := hq k (by omega) (by omega)
          simp only [show ¬ n + 1 < aN l k by omega, decide_false]
          exact ih (by omega) (by omega)
    exact key (n + 1) hp (Nat.le_refl _)
theorem parF_none {l : List Tw} {n : Nat} (hq : ∀ q, q < n → aN l q ≤ n) : parF l n = none := by
  unfold parF
  rw [List.find?_eq_none]
  intro x hx
  have := hq x (by simpa using hx)
  simp
  omega
theorem ret_v {a b : Value} (h : a = b) : Ending.returned a = .returned b := by rw [h]
/-- numbers told in memory of their own. -/
def Told (w : World) (l : List Nat) (en : Ending) (w' : World) : Prop := ∃ v', en = .returned v' ∧ OwnN w.heap.size w' v' l ∧ Below w.heap.size w w'
theorem OwnN.lift {B C : Nat} {w : World} {v : Value} {l : List Nat} (h : OwnN B w v l) (hB : C ≤ B) : OwnN C w v l := ownsRow_base h hB
theorem OwnN.later {B : Nat} {w w' : World} {v : Value} {l : List Nat} (h : OwnN B w v l) (hb : Below w.heap.size w w') : OwnN B w' v l := (Keeps.ofNew hb (fun _ => False)).row h (fun _ _ h => h)
theorem Told.from {w w1 : World} {l : List Nat} {en : Ending} {w' : World} (h : Told w1 l en w') (hb : Below w.heap.size w w1) : Told w l en w' := by
  obtain ⟨v', h1, h2, h3⟩ := h
  exact ⟨v', h1, h2.lift hb.size, hb.trans (h3.mono hb.size)⟩
set_option maxHeartbeats 1000000 in
theorem roots_any {l : List Tw} {lo hi a : Int} {rs : List Nat} (v : Value) (w : World) (h : TwAt w v l) (hF : For l lo hi a 0 l.length rs) (hl : l.length ≤ 1000000) :
    Calls Tryz.prog 169 #[v] w fun en w' => Told w rs en w' := by
  have HS := Lib.hid (some_any v w h hF hl (Nat.le_refl _))
  obtain ⟨ao, cap, rfl⟩ := h.val
  obtain ⟨len, hlen⟩ : ∃ len, len = l.length := ⟨_, rfl⟩
  rw [← hlen] at HS ⊢
  clear h hF hl hlen
  go_enter Tryz.func169, Tryz.ntmps169
  go_wp2_with fail
  refine HS.out.mono ?_
  rintro en w' ⟨v', rfl, h1, h2⟩
  obtain ⟨vo, vc, rfl⟩ := own_val h1
  have HR := Lib.hid (show Told w rs (.returned (.slice vo rs.length vc)) w' from ⟨_, rfl, h1, h2⟩)
  clear h1 h2 HS
  go_wp2
  go_ret
  exact HR.out
set_option maxHeartbeats 1000000 in
theorem kids_any {l : List Tw} {n m : Nat} {ks : List Nat} (v : Value) (w : World) (h : TwAt w v l) (hs : Sub l n m ks) (hl : l.length ≤ 1000000) :
    Calls Tryz.prog 46 #[v, .int .i64 n] w fun en w' => Told w ks en w' := by
  have HA := Lib.hid (after_any v w h hs hl)
  have HS := Lib.hid (some_any v w h hs.2.2.2 hl hs.lt.2)
  have hn := hs.lt
  obtain ⟨ao, cap, rfl⟩ := h.val
  obtain ⟨len, hlen⟩ : ∃ len, len = l.length := ⟨_, rfl⟩
  rw [← hlen] at HA HS hn hl ⊢
  rw [show ((n + 1 : Nat) : Int) = (n : Int) + 1 from rfl] at HS
  clear h hs hlen
  go_enter Tryz.func46, Tryz.ntmps46
  go_wp2_with fail
  refine HA.out.mono ?_
  rintro en w1 ⟨rfl, rfl⟩
  go_wp2_with fail
  refine HS.out.mono ?_
  rintro en w' ⟨v', rfl, h1, h2⟩
  obtain ⟨vo, vc, rfl⟩ := own_val h1
  have HR := Lib.hid (show Told w ks (.returned (.slice vo ks.length vc)) w' from ⟨_, rfl, h1, h2⟩)
  clear h1 h2 HS
  go_wp2
  go_ret
  exact HR.out
/-- a row of twigs that is lent: its numbers fit. -/
structure TwRow (w : World) (v : Value) (l : List Tw) : Prop where
  at' : TwAt w v l
  ok : ∀ t ∈ l, twOk t
  len : l.length ≤ 1000000
theorem TwRow.later {w w' : World} {v : Value} {l : List Tw} (h : TwRow w v l) (hb : Below w.heap.size w w') : TwRow w' v l := ⟨h.at'.later hb, h.ok, h.len⟩
set_option maxHeartbeats 1000000 in
theorem has_any {l : List Tw} (v : Value) (n : Int) (w : World) (h : TwRow w v l) :
    Calls Tryz.prog 45 #[v, .int .i64 n] w fun en w' => en = .returned (.bool (hasR l n)) ∧ Below w.heap.size w w' := by
  have HR := Lib.hid (right_any v l w h.at' h.ok h.len)
  obtain ⟨ao, cap, rfl⟩ := h.at'.val
  have hl := h.len
  obtain ⟨len, hlen⟩ : ∃ len, len = l.length := ⟨_, rfl⟩
  rw [← hlen] at HR hl ⊢
  have HLe := Lib.hid hlen
  clear h hlen
  by_cases h0 : 0 ≤ n
  · by_cases h1 : n < len
    · go_enter Tryz.func45, Tryz.ntmps45
      go_wp2_with fail
      refine HR.out.mono ?_
      rintro en w1 ⟨rfl, hb⟩
      go_wp2
      go_ret
      exact ⟨ret_bool (by have := HLe.out; simp [hasR]; intro _; omega), hb⟩
    · have hd : decide (n < (len : Int)) = false := by simpa using h1
      go_enter Tryz.func45, Tryz.ntmps45
      go_wp2
      go_ret
      exact ⟨ret_bool (by have := HLe.out; simp [hasR]; omega), Below.refl _ _⟩
  · go_enter Tryz.func45, Tryz.ntmps45
    go_wp2
    go_ret
    exact ⟨ret_bool (by simp [hasR]; omega), Below.refl _ _⟩
theorem hasR_yes {l : List Tw} {n : Int} (h : hasR l n = true) : ∃ k : Nat, n = k ∧ k < l.length ∧ RightP l ∧ rightB l = true := by
  simp [hasR] at h
  exact ⟨n.toNat, by omega, by omega, (rightB_iff l).1 h.2, h.2⟩
set_option maxHeartbeats 1000000 in
theorem tRoots_any {l : List Tw} (v : Value) (w : World) (h : TwRow w v l) :
    Calls Tryz.prog 159 #[v] w fun en w' => Told w (topR l) en w' := by
  have HR := Lib.hid (right_any v l w h.at' h.ok h.len)
  have H := Lib.hid h
  obtain ⟨ao, cap, rfl⟩ := h.at'.val
  obtain ⟨len, hlen⟩ : ∃ len, len = l.length := ⟨_, rfl⟩
  rw [← hlen] at HR H ⊢
  have HLe := Lib.hid hlen
  clear h hlen
  cases hr : rightB l
  · have HN := Lib.hid (show topR l = [] from by unfold topR; rw [hr]; rfl)
    rw [hr] at HR
    clear hr
    go_enter Tryz.func159, Tryz.ntmps159
    go_wp2_with fail
    refine HR.out.mono ?_
    rintro en w1 ⟨rfl, hb⟩
    go_wp2
    go_ret
    rw [HN.out]
    exact ⟨_, rfl, World.ownsRow_nil _ _ _ _, hb⟩
  · obtain ⟨rs, hF⟩ := (rightB_iff l).1 hr
    have HN := Lib.hid (topR_of hr hF)
    have HF := Lib.hid hF
    rw [hr] at HR
    clear hr hF
    go_enter Tryz.func159, Tryz.ntmps159
    go_wp2_with fail
    refine HR.out.mono ?_
    rintro en w1 ⟨rfl, hb⟩
    have HRt := Lib.hid (roots_any _ w1 (H.out.later hb).at' HF.out H.out.len)
    have HB := Lib.hid hb
    clear hb
    go_wp2_with fail
    refine HRt.out.mono ?_
    rintro en w' hT
    obtain ⟨v', rfl, h1, h2⟩ := hT.from HB.out
    obtain ⟨vo, vc, rfl⟩ := own_val h1
    have HT := Lib.hid (show Told w (topR l) (.returned (.slice vo rs.length vc)) w' from by rw [HN.out]; exact ⟨_, rfl, h1, h2⟩)
    clear h1 h2 hT HRt
    go_wp2
    go_ret
    exact HT.out
set_option maxHeartbeats 1000000 in
theorem tKids_any {l : List Tw} (v : Value) (n : Int) (w : World) (h : TwRow w v l) :
    Calls Tryz.prog 19 #[v, .int .i64 n] w fun en w' => Told w (kidsR l n) en w' := by
  have HR := Lib.hid (has_any v n w h)
  have H := Lib.hid h
  obtain ⟨ao, cap, rfl⟩ := h.at'.val
  obtain ⟨len, hlen⟩ : ∃ len, len = l.length := ⟨_, rfl⟩
  rw [← hlen] at HR H ⊢
  have HLe := Lib.hid hlen
  clear h hlen
  cases hr : hasR l n
  · have HN := Lib.hid (show kidsR l n = [] from by unfold kidsR; rw [hr]; rfl)
    rw [hr] at HR
    clear hr
    go_enter Tryz.func19, Tryz.ntmps19
    go_wp2_with fail
    refine HR.out.mono ?_
    rintro en w1 ⟨rfl, hb⟩
    go_wp2
    go_ret
    rw [HN.out]
    exact ⟨_, rfl, World.ownsRow_nil _ _ _ _, hb⟩
  · obtain ⟨k, rfl, hk, hP, -⟩ := hasR_yes hr
    obtain ⟨m, ks, hs⟩ := hP.sub hk
    have HN := Lib.hid (show kidsR l k = ks from by unfold kidsR; rw [if_pos hr, Int.toNat_natCast]; exact kidR_of hs)
    have HS := Lib.hid hs
    rw [hr] at HR
    clear hr hs hP hk
    go_enter Tryz.func19, Tryz.ntmps19
    go_wp2_with fail
    refine HR.out.mono ?_
    rintro en w1 ⟨rfl, hb⟩
    have HRt := Lib.hid (kids_any _ w1 (H.out.later hb).at' HS.out H.out.len)
    have HB := Lib.hid hb
    clear hb
    go_wp2_with fail
    refine HRt.out.mono ?_
    rintro en w' hT
    obtain ⟨v', rfl, h1, h2⟩ := hT.from HB.out
    obtain ⟨vo, vc, rfl⟩ := own_val h1
    have HT := Lib.hid (show Told w (kidsR l k) (.returned (.slice vo ks.length vc)) w' from by rw [HN.out]; exact ⟨_, rfl, h1, h2⟩)
    clear h1 h2 hT HRt
    go_wp2
    go_ret
    exact HT.out
end Go.Proofs.YtkimkghldilliaaGreat
