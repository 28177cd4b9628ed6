import Derived.Test.YtpchjpmkkiopiaaGreatMkDm
import Derived.Test.YtpchjpmkkiopiaaGreatHcBm
import Derived.Test.YtpchjpmkkiopiaaGreatInts
namespace Go.Proofs.YtpchjpmkkiopiaaGreat
open Go.RowKit Go.Lib

/-- a slice as an entry may hold it. -/
def Nice (v : Value) : Prop := v = .slice none 0 0 ∨ ∃ b off n c, v = .slice (some ⟨b, off, none⟩) n c
theorem nice_own {w : World} {base n size : Nat} {e : TypeId} {v : Value} {xs : List Value} (h : w.ownsRow base e size v n xs) : Nice v := by
  rcases h.2 with ⟨rfl, -⟩ | ⟨g, cap, cur, rfl, -⟩
  · exact .inl rfl
  · exact .inr ⟨_, _, _, _, rfl⟩
def TwGot (w : World) (v : Value) (l : List Tw) : Prop := TwAt w v l ∧ Nice v
def IvGot (w : World) (v : Value) (l : List Int) : Prop := CellsAt w v (iv l) ∧ Nice v
theorem TwGot.later {w w' : World} {v : Value} {l : List Tw} (h : TwGot w v l) (hb : Below w.heap.size w w') : TwGot w' v l := ⟨h.1.later hb, h.2⟩
theorem IvGot.later {w w' : World} {v : Value} {l : List Int} (h : IvGot w v l) (hb : Below w.heap.size w w') : IvGot w' v l := ⟨h.1.later hb, h.2⟩
abbrev TwOwn (B : Nat) (w : World) (v : Value) (l : List Tw) : Prop := w.ownsRow B 38 5 v l.length (tvs l)
abbrev IvOwn (B : Nat) (w : World) (v : Value) (l : List Int) : Prop := w.ownsRow B 3 1 v l.length (iv l)
theorem cloneTw {v : Value} {l : List Tw} (w : World) (h : TwGot w v l) (hle : l.length ≤ 1000000) :
    Calls Tryz.prog 55 #[v] w fun e w' => ∃ v', e = .returned v' ∧ TwOwn w.heap.size w' v' l ∧ Below w.heap.size w w' := by
  obtain ⟨i0, hi0, hz0, hz1, hz2⟩ := info_parts Tryz.infoTwig
  obtain ⟨h, hn⟩ := h
  rcases hn with rfl | ⟨b, off, n, c, rfl⟩
  · obtain ⟨h1, -⟩ := rows_news twc_len (by omega) h
    obtain rfl : l = [] := List.eq_nil_of_length_eq_zero h1.symm
    have hcon := AnyE.slices_Clone_nil Tryz.cloneT 0 0 w
    change Calls Tryz.prog 55 _ _ _ at hcon
    refine hcon.mono ?_
    rintro e w' ⟨rfl, rfl⟩
    exact ⟨_, rfl, World.ownsRow_nil _ _ _ _, Below.refl _ _⟩
  · obtain ⟨rfl, hlc, hcm, -, hnews⟩ := rows_news twc_len (by omega) h
    have hnews2 : ∀ j u, (tvs l)[j]? = some u → w.cell? ⟨b, off + j, none⟩ = some u := fun j u hj => by
      have := hnews _ rfl j u hj
      have hadd : (⟨b, off, none⟩ : Addr).add j = ⟨b, off + j, none⟩ := by
        unfold Addr.add; split
        · simp_all
        · rfl
      rwa [hadd] at this
    have hcon := AnyE.slices_Clone Tryz.cloneT i0 _ 5 40 hi0 hz0 hz1 hz2 rfl (by omega) Tryz.sizeOf38 b off l.length c (tvs l) w (flat_len twc_len l) (Nat.le_trans hlc hcm) (by omega) hnews2 (flat_one twc_one l)
    change Calls Tryz.prog 55 _ _ _ at hcon
    refine hcon.mono ?_
    rintro e w' ⟨v', rfl, h1, -, h2⟩
    exact ⟨v', rfl, h1, h2⟩
theorem cloneIv {v : Value} {l : List Int} (w : World) (h : IvGot w v l) (hle : l.length ≤ 1000000) :
    Calls Tryz.prog 56 #[v] w fun e w' => ∃ v', e = .returned v' ∧ IvOwn w.heap.size w' v' l ∧ Below w.heap.size w w' := by
  obtain ⟨i0, hi0, hz0, hz1, hz2⟩ := info_parts Tryz.infoInt
  obtain ⟨h, hn⟩ := h
  obtain ⟨ao, b', off', cap, hv, hlc, hcm, hnil, hao, h1, hc⟩ := h
  simp only [List.length_map] at *
  rcases hn with rfl | ⟨b, off, n, c, rfl⟩
  · simp only [Value.slice.injEq] at hv
    obtain ⟨rfl, hl, rfl⟩ := hv
    obtain rfl : l = [] := List.eq_nil_of_length_eq_zero hl.symm
    have hcon := AnyE.slices_Clone_nil Tryz.cloneI 0 0 w
    change Calls Tryz.prog 56 _ _ _ at hcon
    refine hcon.mono ?_
    rintro e w' ⟨rfl, rfl⟩
    exact ⟨_, rfl, World.ownsRow_nil _ _ _ _, Below.refl _ _⟩
  · simp only [Value.slice.injEq] at hv
    obtain ⟨rfl, rfl, rfl⟩ := hv
    have hnews2 : ∀ j u, (iv l)[j]? = some u → w.cell? ⟨b, off + j, none⟩ = some u := fun j u hj => by
      obtain ⟨hjl, hju⟩ := List.getElem?_eq_some_iff.1 hj
      simp only [List.length_map] at hjl
      have h0 := hao (by omega)
      simp only [Option.some.injEq, Addr.mk.injEq, and_true] at h0
      obtain ⟨rfl, rfl⟩ := h0
      rw [hc j hjl, hju]
    have hcon := AnyE.slices_Clone Tryz.cloneI i0 _ 1 8 hi0 hz0 hz1 hz2 rfl (by omega) Tryz.sizeOf3 b off l.length c (iv l) w (by simp) (Nat.le_trans hlc hcm) (by omega) hnews2 h1
    change Calls Tryz.prog 56 _ _ _ at hcon
    refine hcon.mono ?_
    rintro e w' ⟨v', rfl, h1, -, h2⟩
    exact ⟨v', rfl, h1, h2⟩
theorem TwOwn.got {B : Nat} {w : World} {v : Value} {l : List Tw} (h : TwOwn B w v l) : TwGot w v l := by
  refine ⟨?_, nice_own h⟩
  rcases h.2 with ⟨rfl, h0⟩ | ⟨g, cap, cur, rfl, hb, hg, h1, h2, h3, ht⟩
  · obtain rfl : l = [] := List.eq_nil_of_length_eq_zero h0
    exact ⟨none, 0, 0, 0, rfl, by simp, by unfold maxLen; omega, fun _ => ⟨rfl, rfl⟩, fun h => by simp at h, fun e he => by simp at he, fun i hi => by simp at hi⟩
  · refine ⟨some ⟨g, 0, none⟩, g, 0, cap, by simp, by simpa using h1, h2, fun h => by simp at h, fun _ => ⟨rfl, lt_of_block hg⟩, fun e he => by obtain ⟨x, _, rfl⟩ := List.mem_map.1 he; exact twc_len x, fun i hi j hj => ?_⟩
    simp only [List.length_map] at hi
    rw [Nat.zero_add, h.cellAt (i * 5 + j) (by omega), flat_get twc_len l i j hi hj, List.getElem_map]
theorem IvOwn.got {B : Nat} {w : World} {v : Value} {l : List Int} (h : IvOwn B w v l) : IvGot w v l := ⟨own_cells (iv_oneCell l) h, nice_own h⟩

/-- the maps of a memory are watched by its queue. -/
abbrev inw [Watch] (a b c : Nat) : Watch where
  W k := Watch.W k ∨ k = a ∨ k = b ∨ k = c
  lim := max Watch.lim (max a (max b c) + 1)
  lt k h := by
    rcases h with h | h | h | h
    · have := Watch.lt k h; omega
    all_goals omega
theorem Qu.keepsW [Watch] {S : Nat → Prop} {base q : Nat} {w w' : World} {t : Int} {M : List En} (h : Qu base w q t M) (hk : Keeps S w w') (hS : ∀ k, S k → k ≠ q ∧ (Watch.W k ∨ ∃ cs t fr, w.heap[k]? = some (.cells cs t fr) ∧ t ≠ 111 ∧ t ≠ 133)) : Qu base w' q t M := by
  obtain ⟨⟨r, m, lv, L, ⟨q1, ⟨p1, p2, p3, p4, p5, p6, p7, p8, p9, p10, p11, p12⟩, q3, q4, q5⟩, g2⟩, g3⟩ := h
  refine ⟨⟨r, m, lv, L, ⟨hk.obj q1 (fun h => (hS _ h).1 rfl), ⟨hk.obj p1 ?_, Keeps.row hk p2 ?_, p3.keeps hk ?_, p4, p5, p6, p7, p8, p9, p10, p11, Nat.le_trans p12 hk.size⟩, q3, q4, q5⟩, g2⟩, g3⟩
  · intro h
    rcases (hS _ h).2 with h1 | ⟨cs, t, fr, h1, h2, -⟩
    · exact p9 h1
    · rw [p1] at h1; simp at h1; exact h2 h1.2.1.symm
  · intro k hkk h
    rcases (hS _ h).2 with h1 | ⟨cs, t, fr, h1, -, h2⟩
    · exact p11 k hkk h1
    · rcases p2.2 with ⟨rfl, -⟩ | ⟨g, cap, cur, rfl, -, hg, -⟩
      · simp [Value.ownBlock] at hkk
      · simp [Value.ownBlock] at hkk
        subst hkk
        rw [hg] at h1; simp at h1; exact h2 h1.2.1.symm
  · intro h
    rcases (hS _ h).2 with h1 | ⟨cs, t, fr, h1, -, -⟩
    · exact p10 h1
    · obtain ⟨D, ⟨es, clock, h2, -⟩, -⟩ := p3
      rw [h2] at h1; simp at h1
theorem Qu.wider {J : Watch} {base q : Nat} {w w' : World} {t : Int} {M : List En} (h : @Qu J base w q t M) (hb : Below w.heap.size w w') (I : Watch) (h1 : ∀ k, I.W k → J.W k ∨ w.heap.size ≤ k) (h2 : I.lim ≤ w'.heap.size) : @Qu I base w' q t M := by
  obtain ⟨⟨r, m, lv, L, g1, g2⟩, g3⟩ := h
  have g4 := @QuIs.later J _ _ _ _ _ _ _ _ _ g1 hb
  obtain ⟨q1, ⟨p1, p2, p3, p4, p5, p6, p7, p8, p9, p10, p11, -⟩, q3, q4, q5⟩ := g4
  obtain ⟨-, ⟨e1, e2, e3, -⟩, -⟩ := g1
  have hn : ∀ k, k < w.heap.size → ¬ J.W k → ¬ I.W k := fun k hk hj hi => (h1 k hi).elim hj (by omega)
  exact ⟨⟨r, m, lv, L, ⟨q1, ⟨p1, p2, p3, p4, p5, p6, p7, p8, hn _ (lt_of_block e1) p9, hn _ e3.lt p10, fun k hk => hn k (e2.lt k hk).2 (p11 k hk), h2⟩, q3, q4, q5⟩, g2⟩, g3⟩

/-- what a memory's deed may write. -/
def FootM [Watch] (base : Nat) (w : World) (k : Nat) : Prop := (base ≤ k ∧ ¬ Watch.W k) ∧ match w.heap[k]? with
  | some (.cells _ t _) => t ∈ [111, 133, 113, 74]
  | some (.map _ _) => True
  | _ => False
abbrev KeepM [Watch] (base : Nat) (w w' : World) : Prop := Keeps (FootM base w) w w'
theorem FootM.eq [Watch] {base : Nat} {w w' : World} {k : Nat} (h : w'.heap[k]? = w.heap[k]?) : FootM base w' k ↔ FootM base w k := by unfold FootM; rw [h]
theorem KeepM.trans [Watch] {base : Nat} {a b c : World} (h : KeepM base a b) (k : KeepM base b c) : KeepM base a c :=
  ⟨k.os.trans h.os, k.tape.trans h.tape, k.output.trans h.output, Nat.le_trans h.size k.size, fun i hi hn => by
    have e := h.block i hi hn
    exact (k.block i (Nat.lt_of_lt_of_le hi h.size) (fun hb => hn ((FootM.eq e).1 hb))).trans e⟩
theorem KeepM.below [Watch] {base : Nat} {a b : World} (h : KeepM base a b) (hB : base ≤ a.heap.size) : Below base a b := Keeps.below h hB fun _ hk => hk.1.1
theorem KeepM.ofBelow [Watch] {base : Nat} {a b : World} (h : Below a.heap.size a b) : KeepM base a b := Keeps.ofNew h _
theorem KeepM.cells [Watch] {base : Nat} {a b : World} (h : KeepM base a b) {k : Nat} {cs : Array Value} {t : TypeId} {fr : Nat × Nat} (hk : a.heap[k]? = some (.cells cs t fr)) (ht : t ∉ [111, 133, 113, 74]) : b.heap[k]? = some (.cells cs t fr) :=
  Keeps.obj h hk fun hS => ht (by have := hS.2; rw [hk] at this; exact this)
theorem KeepM.row [Watch] {base base' C n : Nat} {e : TypeId} {v : Value} {xs : List Value} {a b : World} (h : KeepM base a b) (hr : a.ownsRow base' e C v n xs) (ht : e ∉ [111, 133, 113, 74]) : b.ownsRow base' e C v n xs :=
  row_kept hr h fun k cs hc hS => ht (by have := hS.2; rw [hc] at this; exact this)

/-- the line of a memory, as it lies in the memory's block p. -/
structure LnIs [Watch] (base : Nat) (w : World) (p q nm km em : Nat) (next room peak : Int) (L : List Rec) : Prop where
  blk : w.heap[p]? = some (.cells #[.pointer (some ⟨q, 0, none⟩), .map (some nm), .map (some km), .int .i64 next, .int .i64 room, .int .i64 peak, .map (some em)] 74 (0, 0))
  qu : @Qu (inw nm km em) base w q next (L.map enR)
  names : MapV kyK w nm L.length (fun k => (fndK L k).map fun r => .int .i64 r.n)
  keys : MapV intK w km L.length (fun n => (fndN L n).map fun r => kyv r.k)
  ord : Ord L next
  n0 : 0 ≤ next
  nle : next ≤ 100000
  le : (L.length : Int) ≤ next
  n12 : nm ≠ km
  n13 : nm ≠ em
  n23 : km ≠ em
  pe : p ≠ em
  qe : q ≠ em
  bp : base ≤ p
  bn : base ≤ nm
  bk : base ≤ km
  be : base ≤ em
  wp : ¬ Watch.W p
  wq : ¬ Watch.W q
  wn : ¬ Watch.W nm
  wk : ¬ Watch.W km
  we : ¬ Watch.W em
  lim : Watch.lim ≤ w.heap.size
/-- the entries of a memory. -/
structure EnIs [Watch] (w : World) (em : Nat) (L : List Rec) : Prop where
  map : MapV kyK w em L.length (fun k => (fndK L k).map fun r => entv r.x)
  tws : ∀ r ∈ L, TwOwn 0 w r.x.tv r.x.tree ∧ ∀ k, r.x.tv.ownBlock = some k → ¬ Watch.W k
  ivs : ∀ r ∈ L, IvOwn 0 w r.x.kv r.x.tou ∧ ∀ k, r.x.kv.ownBlock = some k → ¬ Watch.W k
theorem row_later {w w' : World} {base C n : Nat} {e : TypeId} {v : Value} {xs : List Value} (hr : w.ownsRow base e C v n xs) (hb : Below w.heap.size w w') : w'.ownsRow base e C v n xs := row_kept (S := fun _ => False) hr (Keeps.ofNew hb _) (fun _ _ _ h => h)
theorem LnIs.later [Watch] {base : Nat} {w w' : World} {p q nm km em : Nat} {next room peak : Int} {L : List Rec} (h : LnIs base w p q nm km em next room peak L) (hb : Below w.heap.size w w') : LnIs base w' p q nm km em next room peak L :=
  { h with blk := (hb.block _ (lt_of_block h.blk)).trans h.blk, qu := @Qu.later (inw nm km em) _ _ _ _ _ _ h.qu hb, names := h.names.later hb, keys := h.keys.later hb, lim := Nat.le_trans h.lim hb.size }
theorem EnIs.later [Watch] {w w' : World} {em : Nat} {L : List Rec} (h : EnIs w em L) (hb : Below w.heap.size w w') : EnIs w' em L :=
  ⟨h.map.later hb, fun r hr => ⟨row_later (h.tws r hr).1 hb, (h.tws r hr).2⟩, fun r hr => ⟨row_later (h.ivs r hr).1 hb, (h.ivs r hr).2⟩⟩
/-- another map is written. -/
theorem LnIs.keepE [Watch] {base : Nat} {w w' : World} {p q nm km em : Nat} {next room peak : Int} {L : List Rec} (h : LnIs base w p q nm km em next room peak L) (hk : Keeps (· = em) w w') : LnIs base w' p q nm km em next room peak L :=
  { h with blk := hk.obj h.blk h.pe, qu := @Qu.keepsW (inw nm km em) _ _ _ _ _ _ _ h.qu hk (fun k e => by subst e; exact ⟨fun e => h.qe e.symm, .inl (.inr (.inr (.inr rfl)))⟩), names := h.names.keeps hk (fun e => h.n13 e), keys := h.keys.keeps hk (fun e => h.n23 e), lim := Nat.le_trans h.lim hk.size }
/-- what a deed writes that does not touch the entries. -/
abbrev KeepX [Watch] (base em : Nat) (w w' : World) : Prop := Keeps (fun k => FootM base w k ∧ k ≠ em) w w'
theorem KeepX.trans [Watch] {base em : Nat} {a b c : World} (h : KeepX base em a b) (k : KeepX base em b c) : KeepX base em a c :=
  ⟨k.os.trans h.os, k.tape.trans h.tape, k.output.trans h.output, Nat.le_trans h.size k.size, fun i hi hn => by
    have e := h.block i hi hn
    exact (k.block i (Nat.lt_of_lt_of_le hi h.size) (fun hb => hn ⟨(FootM.eq e).1 hb.1, hb.2⟩)).trans e⟩
theorem KeepX.keepM [Watch] {base em : Nat} {a b : World} (h : KeepX base em a b) : KeepM base a b := Keeps.mono h fun _ _ hk => hk.1
theorem EnIs.keepX [Watch] {base em : Nat} {w w' : World} {L : List Rec} (h : EnIs w em L) (hk : KeepX base em w w') : EnIs w' em L :=
  ⟨h.map.keeps hk (fun hs => hs.2 rfl), fun r hr => ⟨hk.keepM.row (h.tws r hr).1 (by decide), (h.tws r hr).2⟩, fun r hr => ⟨hk.keepM.row (h.ivs r hr).1 (by decide), (h.ivs r hr).2⟩⟩
theorem KeepX.ofQ [Watch] {base p q nm km em : Nat} {next room peak : Int} {L : List Rec} {w w' : World} (h : LnIs base w p q nm km em next room peak L) (hk : @KeepQ (inw nm km em) base q w w') : KeepX base em w w' := Keeps.mono hk fun k _ hS => by
  obtain ⟨cs, hq⟩ := @Qu.qblk (inw nm km em) _ _ _ _ _ h.qu
  have hbq := @Qu.base (inw nm km em) _ _ _ _ _ h.qu
  rcases hS with ⟨⟨h1, h2⟩, h3⟩ | rfl
  · refine ⟨⟨⟨h1, fun e => h2 (.inl e)⟩, ?_⟩, fun e => h2 (.inr (.inr (.inr e)))⟩
    split at h3 <;> simp_all
    rcases h3 with h3 | h3 <;> simp [h3]
  · exact ⟨⟨⟨hbq, h.wq⟩, by rw [hq]; simp⟩, h.qe⟩
end Go.Proofs.YtpchjpmkkiopiaaGreat
