import Derived.Test.YtpchjpmkkiopiaaGreatLib
import Derived.Test.YtpchjpmkkiopiaaGreatKeep
import Derived.Maps.OwnSet
namespace Go.Proofs.YtpchjpmkkiopiaaGreat
open Go.RowKit Go.Lib

/-- a thing that waits: key, name, turn. -/
structure En where
  key : Int
  name : Int
  turn : Int
deriving DecidableEq
def En.none : En := ⟨0, 0, 0⟩
def En.lt (a b : En) : Prop := a.key < b.key ∨ (a.key = b.key ∧ a.turn < b.turn)
instance (a b : En) : Decidable (En.lt a b) := by unfold En.lt; infer_instance
def En.le (a b : En) : Prop := ¬ En.lt b a
theorem En.le_refl (a : En) : En.le a a := by unfold En.le En.lt; omega
theorem En.le_trans {a b c : En} (h1 : En.le a b) (h2 : En.le b c) : En.le a c := by unfold En.le En.lt at *; omega
theorem En.lt_le {a b : En} (h : En.lt a b) : En.le a b := by unfold En.le En.lt at *; omega
theorem En.le_total {a b : En} (h : ¬ En.le a b) : En.le b a := by unfold En.le En.lt at *; omega

def par (k : Nat) : Nat := (k - 1) / 2
theorem par_lt {k : Nat} (h : 0 < k) : par k < k := by unfold par; omega
/-- the first n places are a heap. -/
def Hp (f : Nat → En) (n : Nat) : Prop := ∀ k, 0 < k → k < n → En.le (f (par k)) (f k)
/-- a heap but for the place j, which may be too small. -/
def UpI (f : Nat → En) (n j : Nat) : Prop := (∀ k, 0 < k → k < n → k ≠ j → En.le (f (par k)) (f k)) ∧ ∀ k, 0 < k → k < n → par k = j → 0 < j → En.le (f (par j)) (f k)
/-- a heap but for the place i, which may be too great (and, if nothing was moved, too small). -/
def DnI (f : Nat → En) (n i : Nat) (moved : Bool) : Prop := (∀ k, 0 < k → k < n → par k ≠ i → (moved = true ∨ k ≠ i) → En.le (f (par k)) (f k)) ∧ ∀ k, 0 < k → k < n → par k = i → 0 < i → En.le (f (par i)) (f k)
def swp (f : Nat → En) (i j : Nat) : Nat → En := fun k => if k = i then f j else if k = j then f i else f k

theorem up_done {f : Nat → En} {n j : Nat} (h : UpI f n j) (hd : j = 0 ∨ ¬ En.lt (f j) (f (par j))) : Hp f n := fun k h0 hk => by
  by_cases hj : k = j
  · subst hj
    rcases hd with hd | hd
    · omega
    · exact hd
  · exact h.1 k h0 hk hj
theorem up_step {f : Nat → En} {n j : Nat} (h : UpI f n j) (h0 : 0 < j) (hj : j < n) (hl : En.lt (f j) (f (par j))) : UpI (swp f (par j) j) n (par j) := by
  have hp := par_lt h0
  refine ⟨fun k k0 kn kne => ?_, fun k k0 kn kp p0 => ?_⟩
  · have kp := par_lt k0
    unfold swp
    by_cases h1 : k = j
    · subst h1
      simp only [if_true]
      rw [if_neg (by omega)]
      exact En.lt_le hl
    · rw [if_neg kne, if_neg h1]
      by_cases h2 : par k = par j
      · rw [if_pos h2]
        exact En.le_trans (En.lt_le hl) (by have := h.1 k k0 kn h1; rwa [h2] at this)
      · rw [if_neg h2]
        by_cases h3 : par k = j
        · rw [if_pos h3]
          exact h.2 k k0 kn h3 h0
        · rw [if_neg h3]
          exact h.1 k k0 kn h1
  · have hpp := par_lt p0
    have kp2 := par_lt k0
    have h4 := h.1 (par j) p0 (by omega) (by omega)
    unfold swp
    rw [if_neg (show ¬ par (par j) = par j by omega), if_neg (show ¬ par (par j) = j by omega), if_neg (by omega)]
    by_cases h1 : k = j
    · rw [if_pos h1]; exact h4
    · rw [if_neg h1]
      have h5 := h.1 k k0 kn h1
      rw [kp] at h5
      exact En.le_trans h4 h5
/-- a step down: j is the less kid of i. -/
theorem dn_step {f : Nat → En} {n i j : Nat} {m : Bool} (h : DnI f n i m) (h0 : 0 < j) (hj : j < n) (hp : par j = i) (hm : ∀ k, 0 < k → k < n → par k = i → En.le (f j) (f k)) (hl : En.lt (f j) (f i)) : DnI (swp f i j) n j true := by
  have hij := par_lt h0
  rw [hp] at hij
  refine ⟨fun k k0 kn kp _ => ?_, fun k k0 kn kp _ => ?_⟩
  · have kp2 := par_lt k0
    unfold swp
    by_cases h1 : par k = i
    · rw [if_pos h1, if_neg (show ¬ k = i by omega)]
      by_cases h2 : k = j
      · rw [if_pos h2]; exact En.lt_le hl
      · rw [if_neg h2]; exact hm k k0 kn h1
    · rw [if_neg h1, if_neg kp]
      by_cases h2 : k = i
      · rw [if_pos h2]
        subst h2
        exact h.2 j h0 hj hp k0
      · rw [if_neg h2]
        by_cases h3 : k = j
        · exact absurd (by rw [h3]; exact hp) h1
        · rw [if_neg h3]
          exact h.1 k k0 kn h1 (.inr h2)
  · have kp2 := par_lt k0
    unfold swp
    rw [hp, if_pos rfl, if_neg (by omega), if_neg (by omega)]
    have := h.1 k k0 kn (by omega) (.inr (by omega))
    rw [kp] at this
    exact this
theorem dn_done {f : Nat → En} {n i : Nat} {m : Bool} (h : DnI f n i m) (hk : ∀ k, 0 < k → k < n → par k = i → En.le (f i) (f k)) : UpI f n i ∧ (m = true → Hp f n) := by
  refine ⟨⟨fun k k0 kn ki => ?_, h.2⟩, fun hm k k0 kn => ?_⟩
  · by_cases h1 : par k = i
    · have := hk k k0 kn h1; rwa [h1]
    · exact h.1 k k0 kn h1 (.inr ki)
  · by_cases h1 : par k = i
    · have := hk k k0 kn h1; rwa [h1]
    · exact h.1 k k0 kn h1 (.inl hm)
/-- the first is the least. -/
theorem hp_least {f : Nat → En} {n : Nat} (h : Hp f n) : ∀ k, k < n → En.le (f 0) (f k) := by
  intro k
  induction k using Nat.strongRecOn with
  | _ k ih =>
    intro hk
    by_cases h0 : 0 < k
    · exact En.le_trans (ih (par k) (par_lt h0) (by have := par_lt h0; omega)) (h k h0 hk)
    · obtain rfl : k = 0 := by omega
      exact En.le_refl _
/-- a heap, one place of it laid anew. -/
theorem dn_set {f g : Nat → En} {n N i : Nat} (h : Hp f N) (hN : n ≤ N) (hi : i < N) (hg : ∀ k, k < n → k ≠ i → g k = f k) : DnI g n i false := by
  refine ⟨fun k k0 kn kp hki => ?_, fun k k0 kn kp i0 => ?_⟩
  · have hki : k ≠ i := hki.resolve_left (by simp)
    have kp2 := par_lt k0
    rw [hg k kn hki, hg (par k) (by omega) kp]
    exact h k k0 (by omega)
  · have kp2 := par_lt k0
    have ip2 := par_lt i0
    rw [hg k kn (by omega), hg (par i) (by omega) (by omega)]
    have h1 := h k k0 (by omega)
    rw [kp] at h1
    exact En.le_trans (h i i0 hi) h1
theorem up_push {f : Nat → En} {n : Nat} (h : Hp f n) : UpI f (n + 1) n := ⟨fun k k0 kn kj => h k k0 (by omega), fun k k0 kn kp n0 => by have := par_lt k0; omega⟩
end Go.Proofs.YtpchjpmkkiopiaaGreat
namespace Go.Proofs.YtpchjpmkkiopiaaGreat
open Go.RowKit Go.Lib

def pos (L : List En) (k : Nat) : En := L.getD k En.none
theorem pos_get {L : List En} {k : Nat} (h : k < L.length) : pos L k = L[k] := by simp [pos, h]
theorem pos_set {L : List En} {i : Nat} (hi : i < L.length) (e : En) : pos (L.set i e) = fun k => if k = i then e else pos L k := by
  funext k
  unfold pos
  by_cases h : k = i
  · subst h; simp [hi]
  · simp only [List.getD_eq_getElem?_getD, if_neg h]
    rw [List.getElem?_set_ne (Ne.symm h)]
def swl (L : List En) (i j : Nat) : List En := (L.set i (pos L j)).set j (pos L i)
theorem swl_len (L : List En) (i j : Nat) : (swl L i j).length = L.length := by simp [swl]
theorem pos_swl {L : List En} {i j : Nat} (hi : i < L.length) (hj : j < L.length) (hij : i ≠ j) : pos (swl L i j) = swp (pos L) i j := by
  unfold swl
  rw [pos_set (by simpa using hj), pos_set hi]
  funext k
  unfold swp
  by_cases h1 : k = j
  · have : ¬ j = i := fun h => hij h.symm
    simp [h1, this]
  · simp [h1]
theorem swl_perm {L : List En} {i j : Nat} (hi : i < L.length) (hj : j < L.length) : (swl L i j).Perm L := by
  unfold swl
  rw [pos_get hi, pos_get hj]
  exact List.set_set_perm hi hj
/-- no two of a name. -/
def Once (L : List En) : Prop := (L.map (·.name)).Nodup
theorem Once.perm {L L' : List En} (h : Once L) (hp : L'.Perm L) : Once L' := ((hp.map _).nodup_iff).2 h
/-- where a name is. -/
def whr (L : List En) (x : Int) : Option Nat := (List.range L.length).find? fun i => (pos L i).name == x
theorem whr_some {L : List En} (ho : Once L) {x : Int} {i : Nat} (hi : i < L.length) (hx : (pos L i).name = x) : whr L x = some i := by
  unfold whr
  cases hf : (List.range L.length).find? fun i => (pos L i).name == x with
  | none =>
    have := List.find?_eq_none.1 hf i (List.mem_range.2 hi)
    simp [hx] at this
  | some k =>
    have h1 := List.find?_some hf
    have h2 := List.mem_range.1 (List.mem_of_find?_eq_some hf)
    simp only [beq_iff_eq] at h1
    have h3 : (L.map (·.name))[k]'(by simpa using h2) = (L.map (·.name))[i]'(by simpa using hi) := by
      simp only [List.getElem_map, ← pos_get h2, ← pos_get hi, h1, hx]
    have := (List.getElem_inj ho).1 h3
    rw [this]
theorem whr_none {L : List En} {x : Int} (h : ∀ i, i < L.length → (pos L i).name ≠ x) : whr L x = none := by
  unfold whr
  rw [List.find?_eq_none]
  intro i hi
  simpa using h i (List.mem_range.1 hi)
theorem whr_is {L : List En} {x : Int} {i : Nat} (h : whr L x = some i) : i < L.length ∧ (pos L i).name = x := by
  unfold whr at h
  have h1 := List.find?_some h
  have h2 := List.mem_range.1 (List.mem_of_find?_eq_some h)
  exact ⟨h2, by simpa using h1⟩
theorem whr_not {L : List En} {x : Int} (h : whr L x = none) : ∀ i, i < L.length → (pos L i).name ≠ x := by
  unfold whr at h
  rw [List.find?_eq_none] at h
  intro i hi hx
  exact h i (List.mem_range.2 hi) (by simpa using hx)
/-- a swap turns two places. -/
theorem whr_swl {L : List En} (ho : Once L) {i j : Nat} (hi : i < L.length) (hj : j < L.length) (hij : i ≠ j) (x : Int) : whr (swl L i j) x = if x = (pos L j).name then some i else if x = (pos L i).name then some j else whr L x := by
  have ho' := ho.perm (swl_perm hi hj)
  have hp := pos_swl hi hj hij
  have hl := swl_len L i j
  by_cases h1 : x = (pos L j).name
  · rw [if_pos h1]
    exact whr_some ho' (by rw [hl]; exact hi) (by rw [hp]; simp [swp, h1])
  · rw [if_neg h1]
    by_cases h2 : x = (pos L i).name
    · rw [if_pos h2]
      exact whr_some ho' (by rw [hl]; exact hj) (by rw [hp]; simp [swp, Ne.symm hij, h2])
    · rw [if_neg h2]
      cases hw : whr L x with
      | none =>
        refine whr_none fun k hk => ?_
        rw [hp]
        unfold swp
        split
        · exact fun h => h1 h.symm
        · split
          · exact fun h => h2 h.symm
          · exact whr_not hw k (by rw [← hl]; exact hk)
      | some k =>
        obtain ⟨hk, hx⟩ := whr_is hw
        refine whr_some ho' (by rw [hl]; exact hk) ?_
        rw [hp]
        unfold swp
        rw [if_neg (fun h => h2 (by rw [← hx, h])), if_neg (fun h => h1 (by rw [← hx, h]))]
        exact hx
end Go.Proofs.YtpchjpmkkiopiaaGreat
namespace Go.Proofs.YtpchjpmkkiopiaaGreat
open Go.RowKit Go.Lib Go.Maps

theorem int_law : Keyed Tryz.prog 3 := int_keyed Tryz.underlying3
abbrev kx (x : Int) : Lit := .int .i64 x
theorem kx_key {x : Int} : WideAt.IsKeyLit (kx x) := by simp [WideAt.IsKeyLit]
theorem kx_of {x : Int} (h : (kx x).wf = true) : keyOf Tryz.prog 3 (.int .i64 x) = some (kx x) := keyOf_int_mk Tryz.underlying3 h
def MapFn (w : World) (m s : Nat) (f : Int → Option Nat) : Prop := ∃ D : DataW Unit, w.ownsMap Tryz.prog 3 (plainElem Tryz.prog 3) m s D ∧ Maps.size D = s ∧
  ∀ x, (kx x).wf = true → Maps.has D (kx x) = (f x).isSome ∧ ∀ i, f x = some i → D.atKey (kx x) (.lit (kx 0)) = .lit (kx i)
theorem own_tight {H : Type} {w : World} {P : Program} {k : TypeId} {R : Value → Option (DataW H × List MemPlace)} {b n : Nat} {D : DataW H} (h : w.ownsMap P k R b n D) : w.ownsMap P k R b (Maps.size D) D := by
  obtain ⟨es, clock, hb, F, hs, rfl⟩ := h
  exact ⟨es, clock, hb, F, by simp [Maps.size, length_sorted], rfl⟩
theorem MapFn.lt {w : World} {m s : Nat} {f : Int → Option Nat} (h : MapFn w m s f) : m < w.heap.size := by obtain ⟨D, h, -⟩ := h; exact h.lt
theorem MapFn.keeps {S : Nat → Prop} {w w' : World} {m s : Nat} {f : Int → Option Nat} (h : MapFn w m s f) (hk : Keeps S w w') (hn : ¬ S m) : MapFn w' m s f := by
  obtain ⟨D, ⟨es, clock, hb, F, hs, hD⟩, h2, h3⟩ := h
  exact ⟨D, ⟨es, clock, hk.obj hb hn, F, hs, hD⟩, h2, h3⟩
theorem MapFn.ext {w : World} {m s : Nat} {f g : Int → Option Nat} (h : MapFn w m s f) (he : ∀ x, (kx x).wf = true → f x = g x) : MapFn w m s g := by
  obtain ⟨D, h1, h2, h3⟩ := h
  exact ⟨D, h1, h2, fun x hx => by rw [← he x hx]; exact h3 x hx⟩
def setF (f : Int → Option Nat) (x : Int) (o : Option Nat) : Int → Option Nat := fun y => if y = x then o else f y
theorem kx_ne {x y : Int} (h : y ≠ x) : kx y ≠ kx x := fun e => h (by simpa using e)
theorem MapFn.made (w : World) : MapFn (w.alloc (.map #[] 0)) w.heap.size 0 (fun _ => none) :=
  ⟨.map [], World.ownsMap_made _ _ _ _, rfl, fun x _ => ⟨rfl, fun i h => by simp at h⟩⟩
theorem MapFn.look {w : World} {m s : Nat} {f : Int → Option Nat} (h : MapFn w m s f) {x : Int} (hx : (kx x).wf = true) :
    ∃ c, (Instr.lookup 108 (.map (some m)) (.int .i64 x) true).run Tryz.prog w = .ok (.tuple #[.int .i64 c, .bool (f x).isSome]) w ∧ ∀ i : Nat, f x = some i → c = i := by
  obtain ⟨D, h1, h2, h3⟩ := h
  obtain ⟨v, ps, hr, hv⟩ := h1.look_ok int_law Tryz.underlying108 (z := .int .i64 0) (by kernel_rfl) (plainElem_int Tryz.underlying3 rfl) (kx_of hx)
  obtain ⟨c, rfl, hc, -⟩ := plainElem_int_inv Tryz.underlying3 hv
  rw [(h3 x hx).1] at hr
  refine ⟨c, hr, fun i hi => ?_⟩
  simp only [Prod.mk.injEq] at hc
  have := (h3 x hx).2 i hi
  rw [hc.1] at this
  simpa using this
theorem MapFn.put {w : World} {m s : Nat} {f : Int → Option Nat} (h : MapFn w m s f) (hs : s < 1000000) {x : Int} (hx : (kx x).wf = true) {i : Nat} (hi : i < 1000000) :
    ∃ w', (Instr.mapUpdate 108 (.map (some m)) (.int .i64 x) (.int .i64 i)).run Tryz.prog w = .ok () w' ∧ MapFn w' m (if (f x).isSome then s else s + 1) (setF f x (some i)) ∧ Keeps (· = m) w w' := by
  obtain ⟨D, h1, h2, h3⟩ := h
  have hiw : (Lit.int .i64 (i : Int)).wf = true := by simp [Lit.wf, IntKind.min, IntKind.max, IntKind.signed, IntKind.bits]; omega
  obtain ⟨w', hr, ho, ht⟩ := h1.store int_law Tryz.underlying108 (by unfold maxLen; omega) (kx_of hx) (plainElem_int Tryz.underlying3 hiw)
  have hsz : Maps.size (D.put (kx x) (.lit (kx i))) = if (f x).isSome then s else s + 1 := by rw [Maps.size_put (h1.tidy int_law), (h3 x hx).1, h2]
  refine ⟨w', hr, ⟨_, by rw [← hsz]; exact own_tight ho, hsz, fun y hy => ?_⟩, ⟨ht.grown.os, ht.grown.tape, ht.grown.output, ht.grown.size, fun k hk hn => ht.grown.block k hk (by simp; omega)⟩⟩
  unfold setF
  by_cases hyx : y = x
  · subst hyx
    rw [if_pos rfl]
    exact ⟨Maps.has_put_same h1.isMap kx_key _, fun j hj => by rw [Maps.atKey_put_same h1.isMap kx_key]; simp at hj; rw [hj]⟩
  · rw [if_neg hyx, Maps.has_put_other (kx_ne hyx)]
    exact ⟨(h3 y hy).1, fun j hj => by rw [Maps.atKey_put_other (kx_ne hyx)]; exact (h3 y hy).2 j hj⟩
theorem MapFn.del {w : World} {m s : Nat} {f : Int → Option Nat} (h : MapFn w m s f) {x : Int} (hx : (kx x).wf = true) (ty : TypeId) :
    ∃ w', (Builtin.delete_ #[108, 3] ty #[.map (some m), .int .i64 x]).run Tryz.prog w = .ok (.tuple #[]) w' ∧ MapFn w' m (if (f x).isSome then s - 1 else s) (setF f x none) ∧ Keeps (· = m) w w' := by
  obtain ⟨D, h1, h2, h3⟩ := h
  obtain ⟨w', hr, ho, ht⟩ := h1.drop int_law Tryz.underlying108 (kx_of hx) ty
  have hsz : Maps.size (D.del (kx x)) = if (f x).isSome then s - 1 else s := by
    have := Maps.size_del (k := kx x) (h1.tidy int_law)
    rw [(h3 x hx).1, h2] at this
    split <;> simp_all <;> omega
  refine ⟨w', hr, ⟨_, by rw [← hsz]; exact own_tight ho, hsz, fun y hy => ?_⟩, ⟨ht.grown.os, ht.grown.tape, ht.grown.output, ht.grown.size, fun k hk hn => ht.grown.block k hk (by simp; omega)⟩⟩
  unfold setF
  by_cases hyx : y = x
  · subst hyx
    rw [if_pos rfl]
    exact ⟨Maps.has_del_same, fun j hj => by simp at hj⟩
  · rw [if_neg hyx, Maps.has_del_other (kx_ne hyx)]
    exact ⟨(h3 y hy).1, fun j hj => by rw [Maps.atKey_del_other (kx_ne hyx)]; exact (h3 y hy).2 j hj⟩
end Go.Proofs.YtpchjpmkkiopiaaGreat
