import Derived.Test.YtpchjpmkkiopiaaGreatMbAm
import Derived.Test.YtpchjpmkkiopiaaGreatHrIm
import Derived.Test.YtpchjpmkkiopiaaGreatTwig
namespace Go.Proofs.YtpchjpmkkiopiaaGreat
open Go.RowKit Go.Lib

/-- an entry: what was found, which rules were touched, and the two slices. -/
structure Ent where
  is : Bool
  en : Int
  far : Int
  tree : List Tw
  tou : List Int
  tv : Value
  kv : Value
/-- a key that is there, its name, its entry. -/
structure Rec where
  k : Ky
  n : Int
  x : Ent
abbrev entv (x : Ent) : Value := .agg #[.bool x.is, .int .i64 x.en, .int .i64 x.far, x.tv, x.kv]
def fndK (L : List Rec) (k : Ky) : Option Rec := L.find? fun r => r.k == k
def hasK (L : List Rec) (k : Ky) : Bool := (fndK L k).isSome
def dropK (L : List Rec) (k : Ky) : List Rec := L.filter fun r => r.k != k
def putX (x : Ent) (r : Rec) : Rec := ⟨r.k, r.n, x⟩
def setK (L : List Rec) (k : Ky) (x : Ent) : List Rec := L.map fun r => if r.k = k then putX x r else r
def fndN (L : List Rec) (n : Int) : Option Rec := L.find? fun r => r.n == n
def enR (r : Rec) : En := ⟨r.k.place, r.n, r.n⟩
structure Ord (L : List Rec) (next : Int) : Prop where
  once : (L.map (·.k)).Nodup
  rise : L.Pairwise fun a b => a.n < b.n
  lt : ∀ r ∈ L, 0 ≤ r.n ∧ r.n < next
  wf : ∀ r ∈ L, kyOk r.k
theorem fndK_some {L : List Rec} {k : Ky} {r : Rec} (h : fndK L k = some r) : r ∈ L ∧ r.k = k := by
  unfold fndK at h
  exact ⟨List.mem_of_find?_eq_some h, by simpa using List.find?_some h⟩
theorem fndK_none {L : List Rec} {k : Ky} (h : fndK L k = none) : ∀ r ∈ L, r.k ≠ k := by
  unfold fndK at h
  rw [List.find?_eq_none] at h
  intro r hr
  simpa using h r hr
theorem fndK_no {L : List Rec} {k : Ky} (h : ∀ r ∈ L, r.k ≠ k) : fndK L k = none := by
  unfold fndK
  rw [List.find?_eq_none]
  intro r hr
  simpa using h r hr
theorem key_one {L : List Rec} (ho : (L.map (·.k)).Nodup) {a b : Rec} (ha : a ∈ L) (hb : b ∈ L) (h : a.k = b.k) : a = b := by
  obtain ⟨i, hi, rfl⟩ := List.mem_iff_getElem.1 ha
  obtain ⟨j, hj, rfl⟩ := List.mem_iff_getElem.1 hb
  have h3 : (L.map (·.k))[i]'(by simpa using hi) = (L.map (·.k))[j]'(by simpa using hj) := by simpa using h
  have := (List.getElem_inj ho).1 h3
  subst this
  rfl
theorem fndK_is {L : List Rec} (ho : (L.map (·.k)).Nodup) {r : Rec} (h : r ∈ L) : fndK L r.k = some r := by
  cases hf : fndK L r.k with
  | none => exact absurd rfl (fndK_none hf r h)
  | some a =>
    obtain ⟨h1, h2⟩ := fndK_some hf
    rw [key_one ho h1 h h2]
theorem name_one {L : List Rec} (ho : L.Pairwise fun a b => a.n < b.n) {a b : Rec} (ha : a ∈ L) (hb : b ∈ L) (h : a.n = b.n) : a = b := by
  obtain ⟨i, hi, rfl⟩ := List.mem_iff_getElem.1 ha
  obtain ⟨j, hj, rfl⟩ := List.mem_iff_getElem.1 hb
  rcases Nat.lt_trichotomy i j with h1 | h1 | h1
  · have := List.pairwise_iff_getElem.1 ho i j hi hj h1; omega
  · subst h1; rfl
  · have := List.pairwise_iff_getElem.1 ho j i hj hi h1; omega
theorem fndN_some {L : List Rec} {n : Int} {r : Rec} (h : fndN L n = some r) : r ∈ L ∧ r.n = n := by
  unfold fndN at h
  exact ⟨List.mem_of_find?_eq_some h, by simpa using List.find?_some h⟩
theorem fndN_none {L : List Rec} {n : Int} (h : fndN L n = none) : ∀ r ∈ L, r.n ≠ n := by
  unfold fndN at h
  rw [List.find?_eq_none] at h
  intro r hr
  simpa using h r hr
theorem fndN_no {L : List Rec} {n : Int} (h : ∀ r ∈ L, r.n ≠ n) : fndN L n = none := by
  unfold fndN
  rw [List.find?_eq_none]
  intro r hr
  simpa using h r hr
theorem fndN_is {L : List Rec} (ho : L.Pairwise fun a b => a.n < b.n) {r : Rec} (h : r ∈ L) : fndN L r.n = some r := by
  cases hf : fndN L r.n with
  | none => exact absurd rfl (fndN_none hf r h)
  | some a =>
    obtain ⟨h1, h2⟩ := fndN_some hf
    rw [name_one ho h1 h h2]
theorem mem_dropK {L : List Rec} {k : Ky} {r : Rec} : r ∈ dropK L k ↔ r ∈ L ∧ r.k ≠ k := by simp [dropK]
theorem fndK_drop {L : List Rec} (ho : (L.map (·.k)).Nodup) (k k' : Ky) : fndK (dropK L k) k' = if k' = k then none else fndK L k' := by
  by_cases h : k' = k
  · rw [if_pos h]
    exact fndK_no fun r hr => by rw [h]; exact (mem_dropK.1 hr).2
  · rw [if_neg h]
    cases hf : fndK L k' with
    | none => exact fndK_no fun r hr => fndK_none hf r (mem_dropK.1 hr).1
    | some a =>
      obtain ⟨h1, rfl⟩ := fndK_some hf
      exact fndK_is ((ho.sublist ((List.filter_sublist).map _))) (mem_dropK.2 ⟨h1, h⟩)
theorem fndN_drop {L : List Rec} {next : Int} (ho : Ord L next) {r : Rec} (hr : r ∈ L) (n' : Int) : fndN (dropK L r.k) n' = if n' = r.n then none else fndN L n' := by
  by_cases h : n' = r.n
  · rw [if_pos h]
    exact fndN_no fun a ha e => (mem_dropK.1 ha).2 (by rw [name_one ho.rise (mem_dropK.1 ha).1 hr (e.trans h)])
  · rw [if_neg h]
    cases hf : fndN L n' with
    | none => exact fndN_no fun a ha => fndN_none hf a (mem_dropK.1 ha).1
    | some a =>
      obtain ⟨h1, rfl⟩ := fndN_some hf
      exact fndN_is (ho.rise.sublist (List.filter_sublist)) (mem_dropK.2 ⟨h1, fun e => h (by rw [key_one ho.once h1 hr e])⟩)
theorem Ord.drop {L : List Rec} {next : Int} (h : Ord L next) (k : Ky) : Ord (dropK L k) next :=
  ⟨h.once.sublist ((List.filter_sublist).map _), h.rise.sublist (List.filter_sublist), fun r hr => h.lt r (mem_dropK.1 hr).1, fun r hr => h.wf r (mem_dropK.1 hr).1⟩
theorem dropK_none {L : List Rec} {k : Ky} (h : fndK L k = none) : dropK L k = L := by
  unfold dropK
  rw [List.filter_eq_self]
  intro r hr
  simpa using fndK_none h r hr
theorem dropK_len {L : List Rec} (ho : (L.map (·.k)).Nodup) {k : Ky} (h : hasK L k = true) : (dropK L k).length + 1 = L.length := by
  induction L with
  | nil => simp [hasK, fndK] at h
  | cons a L ih =>
    simp only [List.map_cons, List.nodup_cons] at ho
    by_cases ha : a.k = k
    · subst ha
      have hn : fndK L a.k = none := fndK_no fun r hr e => ho.1 (List.mem_map.2 ⟨r, hr, e⟩)
      have h1 := dropK_none hn
      unfold dropK at h1 ⊢
      rw [List.filter_cons_of_neg (by simp), h1]
      rfl
    · have h2 : hasK L k = true := by
        unfold hasK fndK at h ⊢
        rw [List.find?_cons_of_neg (by simpa using ha)] at h
        exact h
      have := ih ho.2 h2
      unfold dropK at this ⊢
      rw [List.filter_cons_of_pos (by simpa using ha)]
      simp only [List.length_cons]
      omega
theorem dropN_map {L : List Rec} {next : Int} (ho : Ord L next) {r : Rec} (hr : r ∈ L) : dropN (L.map enR) r.n = (dropK L r.k).map enR := by
  unfold dropN dropK
  rw [List.filter_map]
  congr 1
  apply List.filter_congr
  intro a ha
  simp only [Function.comp, enR]
  rw [Bool.eq_iff_iff]
  simp only [bne_iff_ne]
  exact ⟨fun h e => h (by rw [key_one ho.once ha hr e]), fun h e => h (by rw [name_one ho.rise ha hr e])⟩
theorem hasN_map {L : List Rec} (n : Int) : hasN (L.map enR) n = (fndN L n).isSome := by
  rw [Bool.eq_iff_iff, hasN_iff]
  cases hf : fndN L n with
  | none =>
    simp only [Option.isSome_none, Bool.false_eq_true, iff_false]
    rintro ⟨e, he, h⟩
    obtain ⟨r, hr, rfl⟩ := List.mem_map.1 he
    exact fndN_none hf r hr h
  | some a =>
    obtain ⟨h1, h2⟩ := fndN_some hf
    simp only [Option.isSome_some, iff_true]
    exact ⟨_, List.mem_map.2 ⟨a, h1, rfl⟩, h2⟩
theorem fndK_add {L : List Rec} {r : Rec} (h : fndK L r.k = none) (k' : Ky) : fndK (L ++ [r]) k' = if k' = r.k then some r else fndK L k' := by
  have h0 := fndK_none h
  unfold fndK
  rw [List.find?_append]
  by_cases hk : k' = r.k
  · rw [if_pos hk]
    have : L.find? (fun a => a.k == k') = none := by
      rw [List.find?_eq_none]
      intro a ha
      simpa [hk] using h0 a ha
    rw [this]
    simp [hk]
  · rw [if_neg hk]
    have : (r.k == k') = false := by simpa using fun e : r.k = k' => hk e.symm
    simp [List.find?, this]
theorem fndN_add {L : List Rec} {r : Rec} (h : ∀ a ∈ L, a.n ≠ r.n) (n' : Int) : fndN (L ++ [r]) n' = if n' = r.n then some r else fndN L n' := by
  unfold fndN
  rw [List.find?_append]
  by_cases hk : n' = r.n
  · rw [if_pos hk]
    have : L.find? (fun a => a.n == n') = none := by
      rw [List.find?_eq_none]
      intro a ha
      simpa [hk] using h a ha
    rw [this]
    simp [hk]
  · rw [if_neg hk]
    have : (r.n == n') = false := by simpa using fun e : r.n = n' => hk e.symm
    simp [List.find?, this]
theorem Ord.add {L : List Rec} {next : Int} (h : Ord L next) {k : Ky} (x : Ent) (hn : fndK L k = none) (hk : kyOk k) (h0 : 0 ≤ next) : Ord (L ++ [⟨k, next, x⟩]) (next + 1) := by
  refine ⟨?_, ?_, ?_, ?_⟩
  · rw [List.map_append, List.nodup_append]
    refine ⟨h.once, by simp, fun a ha b hb => ?_⟩
    simp at hb
    subst hb
    obtain ⟨r, hr, rfl⟩ := List.mem_map.1 ha
    exact fndK_none hn r hr
  · rw [List.pairwise_append]
    exact ⟨h.rise, by simp, fun a ha b hb => by simp at hb; subst hb; exact (h.lt a ha).2⟩
  · intro r hr
    rcases List.mem_append.1 hr with hr | hr
    · have := h.lt r hr; omega
    · simp at hr; subst hr; exact ⟨h0, by show next < next + 1; omega⟩
  · intro r hr
    rcases List.mem_append.1 hr with hr | hr
    · exact h.wf r hr
    · simp at hr; subst hr; exact hk
theorem setK_k (L : List Rec) (k : Ky) (x : Ent) : (setK L k x).map (·.k) = L.map (·.k) := by
  unfold setK
  rw [List.map_map]
  apply List.map_congr_left
  intro r _
  simp only [Function.comp]
  split <;> rfl
theorem setK_len (L : List Rec) (k : Ky) (x : Ent) : (setK L k x).length = L.length := by simp [setK]
theorem setK_en (L : List Rec) (k : Ky) (x : Ent) : (setK L k x).map enR = L.map enR := by
  unfold setK
  rw [List.map_map]
  apply List.map_congr_left
  intro r _
  simp only [Function.comp]
  split <;> rfl
theorem mem_setK {L : List Rec} {k : Ky} {x : Ent} {a : Rec} (h : a ∈ setK L k x) : ∃ r ∈ L, a.k = r.k ∧ a.n = r.n ∧ (a.x = r.x ∨ a.x = x) := by
  obtain ⟨r, hr, rfl⟩ := List.mem_map.1 h
  refine ⟨r, hr, ?_⟩
  split
  · exact ⟨rfl, rfl, .inr rfl⟩
  · exact ⟨rfl, rfl, .inl rfl⟩
theorem Ord.set {L : List Rec} {next : Int} (h : Ord L next) (k : Ky) (x : Ent) : Ord (setK L k x) next := by
  refine ⟨by rw [setK_k]; exact h.once, ?_, fun a ha => ?_, fun a ha => ?_⟩
  · unfold setK
    rw [List.pairwise_map]
    refine h.rise.imp fun {a b} hab => ?_
    have e : ∀ r : Rec, (if r.k = k then putX x r else r).n = r.n := fun r => by split <;> rfl
    rw [e, e]
    exact hab
  · obtain ⟨r, hr, -, h2, -⟩ := mem_setK ha
    rw [h2]
    exact h.lt r hr
  · obtain ⟨r, hr, h1, -, -⟩ := mem_setK ha
    rw [h1]
    exact h.wf r hr
theorem fndK_set (L : List Rec) (k : Ky) (x : Ent) (k' : Ky) : fndK (setK L k x) k' = (fndK L k').map fun r => if r.k = k then putX x r else r := by
  unfold fndK setK
  rw [List.find?_map]
  congr 1
  congr 1
  funext r
  simp only [Function.comp]
  split <;> rfl
theorem fndN_set (L : List Rec) (k : Ky) (x : Ent) (n' : Int) : fndN (setK L k x) n' = (fndN L n').map fun r => if r.k = k then putX x r else r := by
  unfold fndN setK
  rw [List.find?_map]
  congr 1
  congr 1
  funext r
  simp only [Function.comp]
  split <;> rfl
/-- the first to go. -/
def FirstK (L : List Rec) (r : Rec) : Prop := r ∈ L ∧ ∀ a ∈ L, r.k.place < a.k.place ∨ r.k.place = a.k.place ∧ r.n ≤ a.n
theorem first_map {L : List Rec} {e : En} (h : FirstN (L.map enR) e) : ∃ r, FirstK L r ∧ e = enR r := by
  obtain ⟨h1, h2⟩ := h
  obtain ⟨r, hr, rfl⟩ := List.mem_map.1 h1
  refine ⟨r, ⟨hr, fun a ha => ?_⟩, rfl⟩
  have := h2 (enR a) (List.mem_map.2 ⟨a, ha, rfl⟩)
  unfold En.le En.lt enR at this
  simp only at this
  omega
theorem firstK_one {L : List Rec} (ho : L.Pairwise fun a b => a.n < b.n) {a b : Rec} (ha : FirstK L a) (hb : FirstK L b) : a = b :=
  name_one ho ha.1 hb.1 (by have := ha.2 b hb.1; have := hb.2 a ha.1; omega)
end Go.Proofs.YtpchjpmkkiopiaaGreat
