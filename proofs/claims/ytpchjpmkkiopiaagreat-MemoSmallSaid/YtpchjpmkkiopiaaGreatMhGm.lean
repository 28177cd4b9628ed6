import Derived.Test.YtpchjpmkkiopiaaGreatMhEm
namespace Go.Proofs.YtpchjpmkkiopiaaGreat
open Go.RowKit Go.Lib

/-- what a put does. -/
def PutRel (room next peak : Int) (L : List Rec) (k : Ky) (x : Ent) (G : List Ky) (err next' peak' : Int) (L' : List Rec) : Prop :=
  (room = 0 ∧ G = [] ∧ err = 12 ∧ next' = next ∧ peak' = peak ∧ L' = L) ∨
  (room ≠ 0 ∧ err = 0 ∧ ∃ x', plX x' = plX x ∧
    ((hasK L k = true ∧ G = [] ∧ next' = next ∧ peak' = max peak (L.length : Int) ∧ L' = setK L k x') ∨
     (fndK L k = none ∧ (L.length : Int) ≠ room ∧ G = [] ∧ next' = next + 1 ∧ peak' = max peak ((L.length : Int) + 1) ∧ L' = L ++ [⟨k, next, x'⟩]) ∨
     (fndK L k = none ∧ (L.length : Int) = room ∧ ∃ r, FirstK L r ∧ G = [r.k] ∧ next' = next + 1 ∧ peak' = max peak (L.length : Int) ∧ L' = dropK L r.k ++ [⟨k, next, x'⟩])))
theorem plR_set (L : List Rec) (k : Ky) (x : Ent) : (setK L k x).map plR = (L.map plR).map fun z => if z.1 = k then (z.1, z.2.1, plX x) else z := by
  unfold setK
  rw [List.map_map, List.map_map]
  apply List.map_congr_left
  intro r _
  simp only [Function.comp]
  by_cases h : r.k = k
  · have h2 : (plR r).1 = k := h
    rw [if_pos h, if_pos h2]
    rfl
  · have h2 : ¬ (plR r).1 = k := h
    rw [if_neg h, if_neg h2]
theorem plR_drop (L : List Rec) (k : Ky) : (dropK L k).map plR = (L.map plR).filter fun z => z.1 != k := by
  unfold dropK
  rw [List.filter_map]
  rfl
theorem plR_clr (L : List Rec) (pl : Int) : (clrK L pl).map plR = (L.map plR).filter fun z => decide (z.1.place ≠ pl) := by
  unfold clrK
  rw [List.filter_map]
  rfl
theorem plR_drop2 {L D : List Rec} (h : D.map plR = L.map plR) (k : Ky) : (dropK D k).map plR = (dropK L k).map plR := by rw [plR_drop, plR_drop, h]
theorem plR_clr2 {L D : List Rec} (h : D.map plR = L.map plR) (pl : Int) : (clrK D pl).map plR = (clrK L pl).map plR := by rw [plR_clr, plR_clr, h]
theorem plR_rise {L D : List Rec} (h : D.map plR = L.map plR) (hr : L.Pairwise fun a b => a.n < b.n) : D.Pairwise fun a b => a.n < b.n := by
  have e : ∀ M : List Rec, (M.Pairwise fun a b => a.n < b.n) ↔ (M.map plR).Pairwise fun a b => a.2.1 < b.2.1 := fun M => by rw [List.pairwise_map]; rfl
  rw [e, h, ← e]
  exact hr
theorem plR_first {L D : List Rec} (h : D.map plR = L.map plR) (hr : L.Pairwise fun a b => a.n < b.n) {a b : Rec} (ha : FirstK L a) (hb : FirstK D b) : b.k = a.k := by
  have hin : ∀ {M N : List Rec}, M.map plR = N.map plR → ∀ r ∈ M, ∃ s ∈ N, plR s = plR r := fun {M N} e r hr => by
    have : plR r ∈ N.map plR := by rw [← e]; exact List.mem_map.2 ⟨r, hr, rfl⟩
    obtain ⟨s, hs, h2⟩ := List.mem_map.1 this
    exact ⟨s, hs, h2⟩
  obtain ⟨b', hb', e⟩ := hin h b hb.1
  have hk : b'.k = b.k ∧ b'.n = b.n := by simp only [plR, Prod.mk.injEq] at e; exact ⟨e.1, e.2.1⟩
  have : FirstK L b' := ⟨hb', fun c hc => by
    obtain ⟨c', hc', e2⟩ := hin h.symm c hc
    have hk2 : c'.k = c.k ∧ c'.n = c.n := by simp only [plR, Prod.mk.injEq] at e2; exact ⟨e2.1, e2.2.1⟩
    have := hb.2 c' hc'
    rw [hk.1, hk.2, ← hk2.1, ← hk2.2]
    exact this⟩
  rw [← hk.1, firstK_one hr this ha]
theorem put_same {room next peak : Int} {L D : List Rec} {k : Ky} {x y : Ent} {G H : List Ky} {e f n1 n2 p1 p2 : Int} {L' D' : List Rec} (h : D.map plR = L.map plR) (hr : L.Pairwise fun a b => a.n < b.n) (hx : plX x = plX y) (hL : PutRel room next peak L k x G e n1 p1 L') (hD : PutRel room next peak D k y H f n2 p2 D') :
    H = G ∧ f = e ∧ n2 = n1 ∧ p2 = p1 ∧ D'.map plR = L'.map plR := by
  have hlen := plR_len h
  have hhas := plR_has h k
  have hf : fndK L k = none ↔ fndK D k = none := by
    unfold hasK at hhas
    constructor <;> intro h1 <;> rw [h1] at hhas <;> simpa using hhas
  have hh : ∀ {M : List Rec}, hasK M k = true → fndK M k = none → False := fun h1 h2 => by unfold hasK at h1; rw [h2] at h1; simp at h1
  rcases hL with ⟨a1, rfl, rfl, rfl, rfl, rfl⟩ | ⟨a1, rfl, x', hx', hL⟩ <;> rcases hD with ⟨b1, rfl, rfl, rfl, rfl, rfl⟩ | ⟨b1, rfl, y', hy', hD⟩
  · exact ⟨rfl, rfl, rfl, rfl, h⟩
  · exact absurd a1 b1
  · exact absurd b1 a1
  · have hxy : plX y' = plX x' := by rw [hy', hx', hx]
    rcases hL with ⟨a2, rfl, rfl, rfl, rfl⟩ | ⟨a2, a3, rfl, rfl, rfl, rfl⟩ | ⟨a2, a3, q, hq, rfl, rfl, rfl, rfl⟩ <;> rcases hD with ⟨b2, rfl, rfl, rfl, rfl⟩ | ⟨b2, b3, rfl, rfl, rfl, rfl⟩ | ⟨b2, b3, q2, hq2, rfl, rfl, rfl, rfl⟩
    · exact ⟨rfl, rfl, rfl, by rw [hlen], by rw [plR_set, plR_set, h, hxy]⟩
    · exact (hh a2 (hf.2 b2)).elim
    · exact (hh a2 (hf.2 b2)).elim
    · exact (hh b2 (hf.1 a2)).elim
    · refine ⟨rfl, rfl, rfl, by rw [hlen], ?_⟩
      rw [List.map_append, List.map_append, h]
      congr 1
      show [(k, next, plX y')] = [(k, next, plX x')]
      rw [hxy]
    · exact absurd (by rw [← hlen]; exact b3) a3
    · exact (hh b2 (hf.1 a2)).elim
    · exact absurd (by rw [hlen]; exact a3) b3
    · have hk := plR_first h hr hq hq2
      refine ⟨by rw [hk], rfl, rfl, by rw [hlen], ?_⟩
      rw [List.map_append, List.map_append, hk, plR_drop2 h]
      congr 1
      show [(k, next, plX y')] = [(k, next, plX x')]
      rw [hxy]
/-- what holds of the entries, whatever is put. -/
theorem PutRel.all {room next peak : Int} {L : List Rec} {k : Ky} {x : Ent} {G : List Ky} {err n' p' : Int} {L' : List Rec} (h : PutRel room next peak L k x G err n' p' L') {Q : Ent → Prop} (hQ : ∀ a b : Ent, plX a = plX b → Q b → Q a) (h1 : ∀ r ∈ L, Q r.x) (h2 : Q x) : ∀ r ∈ L', Q r.x := by
  rcases h with ⟨-, -, -, -, -, rfl⟩ | ⟨-, -, x', hx', h⟩
  · exact h1
  · have hx := hQ _ _ hx' h2
    rcases h with ⟨-, -, -, -, rfl⟩ | ⟨-, -, -, -, -, rfl⟩ | ⟨-, -, q, -, -, -, -, rfl⟩
    · intro r hr
      obtain ⟨s, hs, -, -, h3⟩ := mem_setK hr
      rcases h3 with h3 | h3
      · rw [h3]; exact h1 s hs
      · rw [h3]; exact hx
    · intro r hr
      rcases List.mem_append.1 hr with hr | hr
      · exact h1 r hr
      · simp at hr; subst hr; exact hx
    · intro r hr
      rcases List.mem_append.1 hr with hr | hr
      · exact h1 r (mem_dropK.1 hr).1
      · simp at hr; subst hr; exact hx
theorem PutRel.next {room next peak : Int} {L : List Rec} {k : Ky} {x : Ent} {G : List Ky} {err n' p' : Int} {L' : List Rec} (h : PutRel room next peak L k x G err n' p' L') : n' ≤ next + 1 := by
  rcases h with ⟨-, -, -, rfl, -, -⟩ | ⟨-, -, x', hx', h⟩
  · omega
  · rcases h with ⟨-, -, rfl, -, -⟩ | ⟨-, -, -, rfl, -, -⟩ | ⟨-, -, q, -, -, rfl, -, -⟩ <;> omega
theorem PutRel.peak {room next peak : Int} {L : List Rec} {k : Ky} {x : Ent} {G : List Ky} {err n' p' : Int} {L' : List Rec} (h : PutRel room next peak L k x G err n' p' L') (ho : (L.map (·.k)).Nodup) (hp : (L.length : Int) ≤ peak) : (L'.length : Int) ≤ p' := by
  rcases h with ⟨-, -, -, -, rfl, rfl⟩ | ⟨-, -, x', hx', h⟩
  · exact hp
  · rcases h with ⟨-, -, -, rfl, rfl⟩ | ⟨-, -, -, -, rfl, rfl⟩ | ⟨-, -, q, hq, -, -, rfl, rfl⟩
    · rw [setK_len]; omega
    · rw [List.length_append, List.length_singleton]; omega
    · have := dropK_len ho (k := q.k) (by unfold hasK; rw [fndK_is ho hq.1]; rfl)
      rw [List.length_append, List.length_singleton]; omega
theorem mPutX_any [Watch] {base : Nat} {p q nm km em : Nat} {next room peak : Int} {L : List Rec} {k : Ky} (x : Ent) (w : World) (h : MeIs base w p q nm km em next room peak L) (hk : kyOk k) (ht : TwOwn 0 w x.tv x.tree) (hv : IvOwn 0 w x.kv x.tou) (hlt : x.tree.length ≤ 1000000) (hlk : x.tou.length ≤ 1000000) (hnx : next < 100000) :
    Calls Tryz.prog 13 #[.pointer (some ⟨p, 0, none⟩), kyv k, entv x] w fun e w' => ∃ gv G err n' p' L', e = .returned (.tuple #[gv, .int .i64 err]) ∧ KyOwn 0 w' gv G ∧ PutRel room next peak L k x G err n' p' L' ∧ MeIs base w' p q nm km em n' room p' L' ∧ KeepM base w w' := by
  by_cases h0 : room = 0
  · refine (mPut0_any x w h hk ht hv hlt hlk h0).mono ?_
    rintro e w1 ⟨rfl, hb⟩
    exact ⟨_, [], 12, next, peak, L, rfl, World.ownsRow_nil _ _ _ _, .inl ⟨h0, rfl, rfl, rfl, rfl, rfl⟩, h.later hb, KeepM.ofBelow hb⟩
  · cases hf : fndK L k with
    | some r =>
      have hh : hasK L k = true := by unfold hasK; rw [hf]; rfl
      refine (mPutO_any x w h hk ht hv hlt hlk h0 hh).mono ?_
      rintro e w1 ⟨rfl, tv, kv, hm, hkp⟩
      exact ⟨_, [], 0, next, _, _, rfl, World.ownsRow_nil _ _ _ _, .inr ⟨h0, rfl, ⟨x.is, x.en, x.far, x.tree, x.tou, tv, kv⟩, rfl, .inl ⟨hh, rfl, rfl, rfl, rfl⟩⟩, hm, hkp⟩
    | none =>
      by_cases hr : (L.length : Int) = room
      · refine (mPutF_any x w h hk ht hv hlt hlk h0 hf hnx hr).mono ?_
        rintro e w1 ⟨r, g, c, hfk, rfl, hg, tv, kv, hm, hkp⟩
        exact ⟨_, [r.k], 0, next + 1, _, _, rfl, ownsRow_base (by simpa using hg) (Nat.zero_le _), .inr ⟨h0, rfl, ⟨x.is, x.en, x.far, x.tree, x.tou, tv, kv⟩, rfl, .inr (.inr ⟨hf, hr, r, hfk, rfl, rfl, rfl, rfl⟩)⟩, hm, hkp⟩
      · refine (mPutN_any x w h hk ht hv hlt hlk h0 hf hnx hr).mono ?_
        rintro e w1 ⟨rfl, tv, kv, hm, hkp⟩
        exact ⟨_, [], 0, next + 1, _, _, rfl, World.ownsRow_nil _ _ _ _, .inr ⟨h0, rfl, ⟨x.is, x.en, x.far, x.tree, x.tou, tv, kv⟩, rfl, .inr (.inl ⟨hf, hr, rfl, rfl, rfl, rfl⟩)⟩, hm, hkp⟩
theorem rmPutX_any {base r : Nat} {kv lv : Value} {room peak : Int} {D : List Rec} {k : Ky} (nn : Int) (x : Ent) (w : World) (h : Rm base w r kv lv room peak D) (h1 : One1 x) (hri : D.Pairwise fun a b => a.n < b.n) (hpk : (D.length : Int) ≤ peak) (hlt : D.length < 100000) (hbase : base ≤ w.heap.size) :
    Calls Tryz.prog 14 #[.pointer (some ⟨r, 0, none⟩), kyv k, entv x] w fun e w' => ∃ gv G err n' p' D' kv' lv', e = .returned (.tuple #[gv, .int .i64 err]) ∧ RkOwn 0 w' gv G ∧ PutRel room nn peak D k x G err n' p' D' ∧ Rm base w' r kv' lv' room p' D' ∧ KeepR base w w' ∧ ∀ a ∈ D', (∃ s ∈ D, a.x = s.x) ∨ a.x = x := by
  by_cases h0 : room = 0
  · refine (rmPut0_any k x w h h0).mono ?_
    rintro e w1 ⟨rfl, hb⟩
    exact ⟨_, [], 12, nn, peak, D, kv, lv, rfl, World.ownsRow_nil _ _ _ _, .inl ⟨h0, rfl, rfl, rfl, rfl, rfl⟩, h.later hb, KeepR.ofBelow hb, fun a ha => .inl ⟨a, ha, rfl⟩⟩
  · cases hf : fndK D k with
    | some q =>
      have hh : hasK D k = true := by unfold hasK; rw [hf]; rfl
      obtain ⟨i, hi, hq, rfl⟩ := idx_of hf
      subst hq
      refine (rmPutO_any x w h hi h0 h1).mono ?_
      rintro e w1 ⟨rfl, hm, hkp⟩
      exact ⟨_, [], 0, nn, peak, _, kv, lv, rfl, World.ownsRow_nil _ _ _ _, .inr ⟨h0, rfl, x, rfl, .inl ⟨hh, rfl, rfl, by omega, rfl⟩⟩, hm, hkp, fun a ha => by
        obtain ⟨s, hs, -, -, h3⟩ := mem_setK ha
        exact h3.imp (fun h3 => ⟨s, hs, h3⟩) id⟩
    | none =>
      by_cases hr : (D.length : Int) = room
      · refine (rmPutF_any nn x w h h0 h1 hf hr hri hbase).mono ?_
        rintro e w1 ⟨q, g, c, hfk, rfl, hg, kv', lv', hm, hkp⟩
        exact ⟨_, [q.k], 0, nn + 1, _, _, kv', lv', rfl, ownsRow_base (by simpa using hg) (Nat.zero_le _), .inr ⟨h0, rfl, x, rfl, .inr (.inr ⟨hf, hr, q, hfk, rfl, rfl, rfl, rfl⟩)⟩, hm, hkp, fun a ha => by
          rcases List.mem_append.1 ha with ha | ha
          · exact .inl ⟨a, (mem_dropK.1 ha).1, rfl⟩
          · simp at ha; subst ha; exact .inr rfl⟩
      · refine (rmPutN_any nn x w h h0 h1 hf hr hlt hbase).mono ?_
        rintro e w1 ⟨rfl, kv', lv', hm, hkp⟩
        exact ⟨_, [], 0, nn + 1, _, _, kv', lv', rfl, World.ownsRow_nil _ _ _ _, .inr ⟨h0, rfl, x, rfl, .inr (.inl ⟨hf, hr, rfl, rfl, rfl, rfl⟩)⟩, hm, hkp, fun a ha => by
          rcases List.mem_append.1 ha with ha | ha
          · exact .inl ⟨a, ha, rfl⟩
          · simp at ha; subst ha; exact .inr rfl⟩
/-- a memory stays while only what is watched is written. -/
theorem MeIs.keepW {J : Watch} {S : Nat → Prop} {base : Nat} {w w' : World} {p q nm km em : Nat} {next room peak : Int} {L : List Rec} (h : @MeIs J base w p q nm km em next room peak L) (hk : Keeps S w w') (hS : ∀ k, S k → J.W k) : @MeIs J base w' p q nm km em next room peak L := by
  obtain ⟨hl, he⟩ := h
  exact ⟨{ hl with blk := hk.obj hl.blk (fun s => hl.wp (hS _ s)), qu := @Qu.keepsW (@inw J nm km em) _ _ _ _ _ _ _ hl.qu hk (fun k s => ⟨fun e => hl.wq (by rw [← e]; exact hS _ s), .inl (.inl (hS _ s))⟩), names := hl.names.keeps hk (fun s => hl.wn (hS _ s)), keys := hl.keys.keeps hk (fun s => hl.wk (hS _ s)), lim := Nat.le_trans hl.lim hk.size },
    ⟨he.map.keeps hk (fun s => hl.we (hS _ s)), fun r hr => ⟨hk.row (he.tws r hr).1 (fun k h1 s => (he.tws r hr).2 k h1 (hS _ s)), (he.tws r hr).2⟩, fun r hr => ⟨hk.row (he.ivs r hr).1 (fun k h1 s => (he.ivs r hr).2 k h1 (hS _ s)), (he.ivs r hr).2⟩⟩⟩
/-- the entry that comes in is watched. -/
abbrev inW (g1 g2 : Nat) : Watch := ⟨fun k => k = g1 ∨ k = g2, max g1 g2 + 1, fun k h => by rcases h with h | h <;> omega⟩
theorem KeepR.cells {base : Nat} {a b : World} (h : KeepR base a b) {k : Nat} {cs : Array Value} {t : TypeId} {fr : Nat × Nat} (hk : a.heap[k]? = some (.cells cs t fr)) (ht : t ∉ [84, 56, 58]) : b.heap[k]? = some (.cells cs t fr) :=
  Keeps.obj h hk fun hS => ht (by have := hS.2; rw [hk] at this; exact this)
theorem KeepR.row {base base' C n : Nat} {e : TypeId} {v : Value} {xs : List Value} {a b : World} (h : KeepR base a b) (hr : a.ownsRow base' e C v n xs) (ht : e ∉ [84, 56, 58]) : b.ownsRow base' e C v n xs :=
  row_kept hr h fun k cs hc hS => ht (by have := hS.2; rw [hc] at this; exact this)

/-- a deed. -/
structure DeM where
  what : Int
  k : Ky
  x : Ent
def dec (d : DeM) : List Value := [.int .i64 d.what, .int .i64 d.k.rule, .int .i64 d.k.level, .int .i64 d.k.place, .bool d.x.is, .int .i64 d.x.en, .int .i64 d.x.far, d.x.tv, d.x.kv]
def EntAt (w : World) (x : Ent) : Prop := TwAt w x.tv x.tree ∧ CellsAt w x.kv (iv x.tou)
structure DsAt (w : World) (v : Value) (l : List DeM) : Prop where
  row : RowsAt w 9 v (l.map dec)
  ok : ∀ d ∈ l, kyOk d.k ∧ EntAt w d.x
  len : ∀ d ∈ l, d.x.tree.length ≤ 1000000000000000 ∧ d.x.tou.length ≤ 1000000000000000
theorem DsAt.later {w w' : World} {v : Value} {l : List DeM} (h : DsAt w v l) (hb : Below w.heap.size w w') : DsAt w' v l :=
  ⟨RowsAt.later h.row hb, fun d hd => ⟨(h.ok d hd).1, (h.ok d hd).2.1.later hb, (h.ok d hd).2.2.later hb⟩, h.len⟩
theorem DsAt.val {w : World} {v : Value} {l : List DeM} (h : DsAt w v l) : ∃ ao cap, v = .slice ao l.length cap := by
  obtain ⟨ao, cap, h⟩ := RowsAt.val h.row
  exact ⟨ao, cap, by simpa using h⟩
theorem DsAt.cells {w : World} {ao : Option Addr} {n cap : Nat} {l : List DeM} (h : DsAt w (.slice ao n cap) l) : l.length ≤ cap ∧ cap ≤ maxLen ∧ ∀ i (hi : i < l.length), ∃ b off, ao = some ⟨b, off, none⟩ ∧ b < w.heap.size ∧
    w.cell? ⟨b, off + i * 9, none⟩ = some (.int .i64 l[i].what) ∧ w.cell? ⟨b, off + i * 9 + 1, none⟩ = some (.int .i64 l[i].k.rule) ∧ w.cell? ⟨b, off + i * 9 + 2, none⟩ = some (.int .i64 l[i].k.level) ∧ w.cell? ⟨b, off + i * 9 + 3, none⟩ = some (.int .i64 l[i].k.place) ∧
    w.cell? ⟨b, off + i * 9 + 4, none⟩ = some (.bool l[i].x.is) ∧ w.cell? ⟨b, off + i * 9 + 5, none⟩ = some (.int .i64 l[i].x.en) ∧ w.cell? ⟨b, off + i * 9 + 6, none⟩ = some (.int .i64 l[i].x.far) ∧ w.cell? ⟨b, off + i * 9 + 7, none⟩ = some l[i].x.tv ∧ w.cell? ⟨b, off + i * 9 + 8, none⟩ = some l[i].x.kv := by
  obtain ⟨ao', b, off, cap', he, hl, hm, hn, ha, _, hc⟩ := h.row
  simp only [Value.slice.injEq, List.length_map] at he hl hn ha hc
  obtain ⟨rfl, rfl, rfl⟩ := he
  refine ⟨hl, hm, fun i hi => ?_⟩
  obtain ⟨h1, h2⟩ := ha (by omega)
  have h3 := fun j (hj : j < 9) => hc i hi j hj
  simp only [List.getElem_map] at h3
  exact ⟨b, off, h1, h2, h3 0 (by omega), h3 1 (by omega), h3 2 (by omega), h3 3 (by omega), h3 4 (by omega), h3 5 (by omega), h3 6 (by omega), h3 7 (by omega), h3 8 (by omega)⟩
set_option maxRecDepth 100000 in
set_option maxHeartbeats 2000000 in
theorem size_any (v : Value) (l : List DeM) (w : World) (h : DsAt w v l) (hl : l.length ≤ 200) :
    Calls Tryz.prog 8 #[v] w fun e w' => ∃ s : Int, e = .returned (.int .i64 s) ∧ (s ≤ 2000 → ∀ d ∈ l, d.x.tree.length ≤ 2000 ∧ d.x.tou.length ≤ 2000) ∧ Below w.heap.size w w' := by
  have H := Lib.hid h
  obtain ⟨ao, cap, rfl⟩ := h.val
  obtain ⟨n, hn⟩ : ∃ n, n = l.length := ⟨_, rfl⟩
  have HN := Lib.hid hn
  rw [← hn] at H hl ⊢
  clear h hn
  go_enter Tryz.func8, Tryz.ntmps8
  go_upto_region 3 with (fail)
  go_loopw [3, 4] (fun t i wr => ∃ (k : Nat) (s : Int), k ≤ n ∧ i = .int .i64 k ∧ t = .int .i64 s ∧ 0 ≤ s ∧ s ≤ 3000000000000000 ∧ Hid (∀ j (hj : j < l.length), j < k → (l[j].x.tree.length : Int) ≤ s ∧ (l[j].x.tou.length : Int) ≤ s) ∧ Hid (Below w.heap.size w wr)) (fun _ i _ => n - (intOf i).toNat)
  case atStart => exact ⟨0, n, Nat.zero_le _, rfl, rfl, by omega, by omega, Lib.hid (fun j hj h => by omega), Lib.hid (Below.refl _ _)⟩
  case round =>
    obtain ⟨k, s, hk, rfl, rfl, hs0, hs1, HQ, HB⟩ := hrel
    by_cases hlt : k < n
    · have hlt2 : (k : Int) < n := by omega
      by_cases hs : s ≤ 2000
      · have hkl : k < l.length := by rw [← HN.out]; exact hlt
        obtain ⟨b, off, rfl, -, -, -, -, -, -, -, -, c7, c8⟩ := (H.out.later HB.out).cells.2.2 k hkl
        obtain ⟨-, hat, hai⟩ := (H.out.later HB.out).ok _ (List.getElem_mem hkl)
        obtain ⟨d, hd⟩ : ∃ d, d = l[k] := ⟨_, rfl⟩
        have HD := Lib.hid hd
        rw [← hd] at c7 c8 hat hai
        obtain ⟨at1, ct, ht⟩ := hat.val
        obtain ⟨ak1, ck, hk1, -, -, -⟩ := iv_open hai
        rw [ht] at c7 hat
        rw [hk1] at c8
        obtain ⟨hm1, hm2⟩ := H.out.len d (by rw [hd]; exact List.getElem_mem hkl)
        obtain ⟨nt, hnt⟩ : ∃ z, z = d.x.tree.length := ⟨_, rfl⟩
        obtain ⟨nk, hnk⟩ : ∃ z, z = d.x.tou.length := ⟨_, rfl⟩
        have HNt := Lib.hid hnt
        have HNk := Lib.hid hnk
        rw [← hnt] at c7 hm1
        rw [← hnk] at c8 hm2
        have hw1 : IntKind.i64.wrap (s + nt) = s + nt := IntWalk.i64_in _ (by omega)
        have hw2 : IntKind.i64.wrap (s + nt + nk) = s + nt + nk := IntWalk.i64_in _ (by omega)
        clear hd hat hai ht hk1 hnt hnk
        go_upto_region 5 with (fail)
        go_big_quiet (fail)
        go_wp2
        go_roundw
        case rel => exact ⟨k + 1, s + nt + nk, by omega, by go_num, rfl, by omega, by omega, Lib.hid (fun j hj h => by
          by_cases e : j = k
          · subst e
            rw [← HD.out, ← HNt.out, ← HNk.out]
            omega
          · have := HQ.out j hj (by omega)
            omega), Lib.hid (below_draws HB.out _)⟩
        case measure => simp [intOf]; omega
      · go_wp2
        go_ret
        exact ⟨s, rfl, fun h => absurd h (by omega), HB.out⟩
    · have hlt2 : ¬ (k : Int) < n := by omega
      have hE := Lib.hid (show s ≤ 2000 → ∀ d ∈ l, d.x.tree.length ≤ 2000 ∧ d.x.tou.length ≤ 2000 from fun hs d hd => by
        obtain ⟨j, hj, rfl⟩ := List.mem_iff_getElem.1 hd
        have := HQ.out j hj (by rw [← HN.out] at hj; omega)
        omega)
      go_wp2
      go_ret
      exact ⟨s, rfl, hE.out, HB.out⟩
end Go.Proofs.YtpchjpmkkiopiaaGreat
namespace Go.Proofs.YtpchjpmkkiopiaaGreat
open Go.RowKit Go.Lib

/-- all older blocks are watched. -/
abbrev oldW (B : Nat) : Watch := ⟨fun k => k < B, B, fun _ h => h⟩
theorem copy_closeW {B B2 m2 o nm km : Nat} {w v : World} {next room peak : Int} {L : List Rec} {vs : List Ky} {g : Ky → Ent} (hor : Ord L next) (hn0 : 0 ≤ next) (hnle : next ≤ 100000) (hle : (L.length : Int) ≤ next) (hc : CpS B w v m2 L vs g) (hnd : vs.Nodup) (hvk : ∀ x ∈ vs, kyOk x) (hd : ∀ x, kyOk x → (((fun k => (fndK L k).map fun r => entv r.x) x).isSome = true ↔ x ∈ vs))
    (hl : LnGot B2 v o nm km next L) (hB : B ≤ B2) (hm2 : B ≤ m2) (hm3 : m2 < B2) :
    ∃ L', L'.map plR = L.map plR ∧ @MeIs (oldW B) B (v.alloc (.cells #[.pointer (some ⟨o, 0, none⟩), .map (some nm), .map (some km), .int .i64 next, .int .i64 room, .int .i64 peak, .map (some m2)] 74 (0, 0))) v.heap.size o nm km m2 next room peak L' ∧
      Below B w (v.alloc (.cells #[.pointer (some ⟨o, 0, none⟩), .map (some nm), .map (some km), .int .i64 next, .int .i64 room, .int .i64 peak, .map (some m2)] 74 (0, 0))) := by
  have hkeys : vs.Perm (L.map (·.k)) := by
    rw [List.perm_ext_iff_of_nodup hnd hor.once]
    intro x
    constructor
    · intro hx
      have := (hd x (hvk x hx)).2 hx
      rw [Option.isSome_map] at this
      exact (fndK_mem hor.once x).1 this
    · intro hx
      obtain ⟨r, hr, rfl⟩ := List.mem_map.1 hx
      refine (hd _ (hor.wf r hr)).1 ?_
      rw [Option.isSome_map]
      exact (fndK_mem hor.once _).2 hx
  have hin : ∀ r ∈ L, r.k ∈ vs := fun r hr => hkeys.mem_iff.2 (List.mem_map.2 ⟨r, hr, rfl⟩)
  have hlen : vs.length = L.length := by rw [hkeys.length_eq, List.length_map]
  have hen : (L.map fun r => putX (g r.k) r).map enR = L.map enR := by rw [List.map_map]; rfl
  have hkk : (L.map fun r => putX (g r.k) r).map (·.k) = L.map (·.k) := by rw [List.map_map]; rfl
  obtain ⟨hb1, hx1⟩ := one_new v (.cells #[.pointer (some ⟨o, 0, none⟩), .map (some nm), .map (some km), .int .i64 next, .int .i64 room, .int .i64 peak, .map (some m2)] 74 (0, 0))
  have hon := hl.on
  have hnk := hl.nk
  have hbo := hl.bo
  have hkl := hl.keys.lt
  have hvB : B ≤ v.heap.size := by omega
  have hor' : Ord (L.map fun r => putX (g r.k) r) next := by
    refine ⟨by rw [hkk]; exact hor.once, ?_, fun r hr => ?_, fun r hr => ?_⟩
    · rw [List.pairwise_map]; exact hor.rise
    · obtain ⟨a, ha, rfl⟩ := List.mem_map.1 hr; exact hor.lt a ha
    · obtain ⟨a, ha, rfl⟩ := List.mem_map.1 hr; exact hor.wf a ha
  refine ⟨L.map fun r => putX (g r.k) r, ?_, @MeIs.mk (oldW B) _ _ _ _ _ _ _ _ _ _ _ (@LnIs.mk (oldW B) _ _ _ _ _ _ _ _ _ _ _ hx1 ?_ ?_ ?_ hor' hn0 hnle (by simpa using hle) (by omega) (by omega) (by omega) (by omega) (by omega) hvB (by omega) (by omega) hm2 (Nat.not_lt.2 hvB) (Nat.not_lt.2 (by omega)) (Nat.not_lt.2 (by omega)) (Nat.not_lt.2 (by omega)) (Nat.not_lt.2 hm2) (Nat.le_trans hvB hb1.size)) (@EnIs.mk (oldW B) _ _ _ ?_ ?_ ?_), hc.bel.trans (hb1.mono hvB)⟩
  · rw [List.map_map]
    apply List.map_congr_left
    intro r hr
    obtain ⟨⟨h1, h2, h3, h4, h5⟩, -⟩ := hc.ent r hr (hin r hr)
    simp only [Function.comp, plR, putX, h1, h2, h3, h4, h5]
  · rw [hen]
    exact Qu.widen (hl.qu m2 hm3) hb1 hB _ (fun k hk => by
      rcases hk with hk | hk
      · exact .inr (.inr (Nat.lt_of_lt_of_le hk hB))
      · exact .inl (.inr hk)) (by show max B _ ≤ _; have := hb1.size; omega)
  · rw [List.length_map]
    refine (hl.names.later hb1).ext (fun k _ => ?_)
    rw [put_fnd, Option.map_map]
    rfl
  · rw [List.length_map]
    refine (hl.keys.later hb1).ext (fun k _ => ?_)
    rw [put_fndN, Option.map_map]
    rfl
  · rw [List.length_map, ← hlen]
    refine (hc.map.later hb1).ext (fun k hk => ?_)
    rw [put_fnd, Option.map_map]
    by_cases hv : k ∈ vs
    · rw [if_pos hv]
      have := (hd k hk).2 hv
      rw [Option.isSome_map] at this
      obtain ⟨r, hr⟩ := Option.isSome_iff_exists.1 this
      rw [hr]
      obtain ⟨-, rfl⟩ := fndK_some hr
      rfl
    · rw [if_neg hv]
      cases hf : fndK L k with
      | none => rfl
      | some r => exact absurd ((hd k hk).1 (by rw [Option.isSome_map, hf]; rfl)) hv
  · intro a ha
    obtain ⟨r, hr, rfl⟩ := List.mem_map.1 ha
    exact ⟨ownsRow_base (row_later (hc.ent r hr (hin r hr)).2.1 hb1) (Nat.zero_le _), fun k hk => Nat.not_lt.2 ((hc.ent r hr (hin r hr)).2.1.lt k hk).1⟩
  · intro a ha
    obtain ⟨r, hr, rfl⟩ := List.mem_map.1 ha
    exact ⟨ownsRow_base (row_later (hc.ent r hr (hin r hr)).2.2 hb1) (Nat.zero_le _), fun k hk => Nat.not_lt.2 ((hc.ent r hr (hin r hr)).2.2.lt k hk).1⟩
set_option maxRecDepth 100000 in
set_option maxHeartbeats 8000000 in
theorem mCopyW_any [Watch] {base : Nat} {p q nm km em : Nat} {next room peak : Int} {L : List Rec} (w : World) (h : MeIs base w p q nm km em next room peak L) (hsz : ∀ r ∈ L, r.x.tree.length ≤ 1000000 ∧ r.x.tou.length ≤ 1000000) :
    Calls Tryz.prog 21 #[.pointer (some ⟨p, 0, none⟩)] w fun e w' => ∃ p' q' nm' km' em' L', e = .returned (.pointer (some ⟨p', 0, none⟩)) ∧ L'.map plR = L.map plR ∧ @MeIs (oldW w.heap.size) w.heap.size w' p' q' nm' km' em' next room peak L' ∧ Below w.heap.size w w' := by
  have H := Lib.hid h
  have HSz := Lib.hid hsz
  have hmm := @run_makeMap Tryz.prog
  clear h hsz
  go_enter Tryz.func21, Tryz.ntmps21
  go_wp2_with fail
  refine (H.out.ln.made w).mono ?_
  rintro e w1 ⟨rfl, rfl⟩
  go_upto_region 4 with (fail)
  obtain ⟨m2, hm2⟩ : ∃ m, m = w.heap.size := ⟨_, rfl⟩
  have hn1 := one_new w (.map #[] 0)
  have h0 : CpS w.heap.size w (w.alloc (.map #[] 0)) w.heap.size L [] (fun _ => ⟨false, 0, 0, [], [], .slice none 0 0, .slice none 0 0⟩) := ⟨(MapV.made kyK w).ext (fun _ _ => rfl), fun r hr hv => by simp at hv, hn1.1⟩
  refine gen_world (S := fun u => Below w.heap.size w u ∧ CpS w.heap.size w u w.heap.size L [] (fun _ => ⟨false, 0, 0, [], [], .slice none 0 0, .slice none 0 0⟩)) ⟨hn1.1, h0⟩ (fun u hu => ?_)
  obtain ⟨hb, hc0⟩ := hu
  have HM2 := Lib.hid hm2
  rw [← hm2] at hc0 ⊢
  have Hu := Lib.hid (H.out.later hb)
  have HB := Lib.hid hb
  have HC0 := Lib.hid hc0
  clear hm2 hn1 h0 hb hc0
  have hmap := Hu.out.en.map
  obtain ⟨⟨-, -, -, -, -, -, c6⟩, -⟩ := seven_box Hu.out.ln.blk
  go_wp2_with (at_range; refine wpList_range_V rfl _ _ rfl Tryz.underlying72 rfl hmap ?_; intro w0 hrg0 hg0)
  have HR0 := Lib.hid hrg0
  have HC1 := Lib.hid (show CpS m2 w w0 m2 L [] (fun _ => ⟨false, 0, 0, [], [], .slice none 0 0, .slice none 0 0⟩) from by
    have hk : Keeps (fun _ => False) u w0 := (keeps_grown hg0).mono (fun _ _ h => by simp at h)
    have := HC0.out.later hk.new (by rw [HM2.out]; exact HB.out.size)
    exact this)
  obtain ⟨ri, hri⟩ : ∃ r, r = u.heap.size := ⟨_, rfl⟩
  have HRi := Lib.hid (show m2 < ri from by rw [hri]; exact HC0.out.map.lt)
  rw [← hri] at HR0 ⊢
  clear hrg0 hg0 hmap c6 HC0 hri
  go_frame
  go_loopw [4] (fun _ wr => ∃ (cnt : Nat) (vs : List Ky) (g : Ky → Ent), vs.length + cnt ≤ L.length ∧ Hid (RangeV kyK wr em ri L.length (fun k => (fndK L k).map fun r => entv r.x) vs cnt ∧ CpS m2 w wr m2 L vs g)) (fun _ wr => wr.rangeLeft em ri)
  case atStart => exact ⟨_, [], _, by simp, Lib.hid ⟨HR0.out, HC1.out⟩⟩
  case round =>
    obtain ⟨cnt, vs, g, hvl, HR⟩ := hrel
    have HVl := Lib.hid hvl
    clear hvl
    have HBe := Lib.hid (show Below w.heap.size w wr from by have := HR.out.2.bel; rw [HM2.out] at this; exact this)
    have hrg := HR.out.1
    go_wp2_with (at_next; refine wpList_next_V rfl _ rfl rfl hrg ?_ ?_)
    · intro hd
      have hd2 : ∀ x, kyOk x → (((fun k => (fndK L k).map fun r => entv r.x) x).isSome = true ↔ x ∈ vs) := by
        intro x hx
        have := hd x hx
        simpa using this
      have HD := Lib.hid hd2
      obtain ⟨hnd, hvk⟩ := range_sorted hrg
      have HNd := Lib.hid hnd
      have HVk := Lib.hid hvk
      clear hd hd2 hnd hvk hrg
      go_upto_region 8 with (fail)
      have hsw := HBe.out.size
      have HSw := Lib.hid hsw
      clear hsw
      refine wp_region_held_drew (S := fun z => Below w.heap.size w z) (by kernel_rfl) HBe.out.drew (fun hS => ?_)
      refine wpAnyH_take (i := 0) (oi := ⟨_, _, _, _, _, _⟩) (v := ?v4) rfl (by kernel_rfl) (by kernel_rfl) (by kernel_rfl) (fun _ _ _ h => h) ?y4 hS ?_
      case y4 => first | (refine Or.inr ⟨by rfl, ?_⟩; with_reducible rfl) | (refine Or.inl ⟨by rfl, ?_⟩; intro wS hSw; obtain ⟨⟨-, -, -, -, a4, a5, -⟩, -⟩ := seven_box (H.out.later hSw).ln.blk; go_simp; try with_reducible rfl)
      simp only [Act.put, List.setIfInBounds_toArray, List.set_cons_zero, List.set_cons_succ]
      refine wpAnyH_take (i := 1) (oi := ⟨_, _, _, _, _, _⟩) (v := ?v5) rfl (by kernel_rfl) (by kernel_rfl) (by kernel_rfl) (fun _ _ _ h => h) ?y5 hS ?_
      case y5 => first | (refine Or.inr ⟨by rfl, ?_⟩; with_reducible rfl) | (refine Or.inl ⟨by rfl, ?_⟩; intro wS hSw; obtain ⟨⟨-, -, -, -, a4, a5, -⟩, -⟩ := seven_box (H.out.later hSw).ln.blk; go_simp; try with_reducible rfl)
      simp only [Act.put, List.setIfInBounds_toArray, List.set_cons_zero, List.set_cons_succ]
      refine wpAnyH_take (i := 2) (oi := ⟨_, _, _, _, _, _⟩) (v := ?v6) rfl (by kernel_rfl) (by kernel_rfl) (by kernel_rfl) (fun _ _ _ h => h) ?y6 hS ?_
      case y6 => first | (refine Or.inr ⟨by rfl, ?_⟩; with_reducible rfl) | (refine Or.inl ⟨by rfl, ?_⟩; intro wS hSw; obtain ⟨⟨-, -, -, -, a4, a5, -⟩, -⟩ := seven_box (H.out.later hSw).ln.blk; go_simp; try with_reducible rfl)
      simp only [Act.put, List.setIfInBounds_toArray, List.set_cons_zero, List.set_cons_succ]
      refine wpAnyH_take (i := 4) (oi := ⟨_, _, _, _, _, _⟩) (v := ?v7) rfl (by kernel_rfl) (by kernel_rfl) (by kernel_rfl) (fun _ _ _ h => h) ?y7 hS ?_
      case y7 => first | (refine Or.inr ⟨by rfl, ?_⟩; with_reducible rfl) | (refine Or.inl ⟨by rfl, ?_⟩; intro wS hSw; obtain ⟨⟨-, -, -, -, a4, a5, -⟩, -⟩ := seven_box (H.out.later hSw).ln.blk; go_simp; try with_reducible rfl)
      simp only [Act.put, List.setIfInBounds_toArray, List.set_cons_zero, List.set_cons_succ]
      refine wpAnyH_take (i := 5) (oi := ⟨_, _, _, _, _, _⟩) (v := ?v8) rfl (by kernel_rfl) (by kernel_rfl) (by kernel_rfl) (fun _ _ _ h => h) ?y8 hS ?_
      case y8 => first | (refine Or.inr ⟨by rfl, ?_⟩; with_reducible rfl) | (refine Or.inl ⟨by rfl, ?_⟩; intro wS hSw; obtain ⟨⟨-, -, -, -, a4, a5, -⟩, -⟩ := seven_box (H.out.later hSw).ln.blk; go_simp; try with_reducible rfl)
      simp only [Act.put, List.setIfInBounds_toArray, List.set_cons_zero, List.set_cons_succ]
      refine wpAnyH_take (i := 6) (oi := ⟨_, _, _, _, _, _⟩) (v := ?v9) rfl (by kernel_rfl) (by kernel_rfl) (by kernel_rfl) (fun _ _ _ h => h) ?y9 hS ?_
      case y9 => first | (refine Or.inr ⟨by rfl, ?_⟩; with_reducible rfl) | (refine Or.inl ⟨by rfl, ?_⟩; intro wS hSw; obtain ⟨⟨-, -, -, -, a4, a5, -⟩, -⟩ := seven_box (H.out.later hSw).ln.blk; go_simp; try with_reducible rfl)
      simp only [Act.put, List.setIfInBounds_toArray, List.set_cons_zero, List.set_cons_succ]
      refine wpAnyH_take (i := 7) (oi := ⟨_, _, _, _, _, _⟩) (v := ?v10) rfl (by kernel_rfl) (by kernel_rfl) (by kernel_rfl) (fun _ _ _ h => h) ?y10 hS ?_
      case y10 => first | (refine Or.inr ⟨by rfl, ?_⟩; with_reducible rfl) | (refine Or.inl ⟨by rfl, ?_⟩; intro wS hSw; obtain ⟨⟨-, -, -, -, a4, a5, -⟩, -⟩ := seven_box (H.out.later hSw).ln.blk; go_simp; try with_reducible rfl)
      simp only [Act.put, List.setIfInBounds_toArray, List.set_cons_zero, List.set_cons_succ]
      refine wpAnyH_take (i := 8) (oi := ⟨_, _, _, _, _, _⟩) (v := ?v11) rfl (by kernel_rfl) (by kernel_rfl) (by kernel_rfl) (fun _ _ _ h => h) ?y11 hS ?_
      case y11 => first | (refine Or.inr ⟨by rfl, ?_⟩; with_reducible rfl) | (refine Or.inl ⟨by rfl, ?_⟩; intro wS hSw; obtain ⟨⟨-, -, -, -, a4, a5, -⟩, -⟩ := seven_box (H.out.later hSw).ln.blk; go_simp; try with_reducible rfl)
      simp only [Act.put, List.setIfInBounds_toArray, List.set_cons_zero, List.set_cons_succ]
      refine wpAnyH_take (i := 9) (oi := ⟨_, _, _, _, _, _⟩) (v := ?v12) rfl (by kernel_rfl) (by kernel_rfl) (by kernel_rfl) (fun _ _ _ h => h) ?y12 hS ?_
      case y12 => first | (refine Or.inr ⟨by rfl, ?_⟩; with_reducible rfl) | (refine Or.inl ⟨by rfl, ?_⟩; intro wS hSw; obtain ⟨⟨-, -, -, -, a4, a5, -⟩, -⟩ := seven_box (H.out.later hSw).ln.blk; go_simp; try with_reducible rfl)
      simp only [Act.put, List.setIfInBounds_toArray, List.set_cons_zero, List.set_cons_succ]
      refine wpAnyH_take (i := 10) (oi := ⟨_, _, _, _, _, _⟩) (v := ?v13) rfl (by kernel_rfl) (by kernel_rfl) (by kernel_rfl) (fun _ _ _ h => h) ?y13 hS ?_
      case y13 => first | (refine Or.inr ⟨by rfl, ?_⟩; with_reducible rfl) | (refine Or.inl ⟨by rfl, ?_⟩; intro wS hSw; obtain ⟨⟨-, -, -, -, a4, a5, -⟩, -⟩ := seven_box (H.out.later hSw).ln.blk; go_simp; try with_reducible rfl)
      simp only [Act.put, List.setIfInBounds_toArray, List.set_cons_zero, List.set_cons_succ]
      refine wpAnyH_take (i := 11) (oi := ⟨_, _, _, _, _, _⟩) (v := ?v14) rfl (by kernel_rfl) (by kernel_rfl) (by kernel_rfl) (fun _ _ _ h => h) ?y14 hS ?_
      case y14 => first | (refine Or.inr ⟨by rfl, ?_⟩; with_reducible rfl) | (refine Or.inl ⟨by rfl, ?_⟩; intro wS hSw; obtain ⟨⟨-, -, -, -, a4, a5, -⟩, -⟩ := seven_box (H.out.later hSw).ln.blk; go_simp; try with_reducible rfl)
      simp only [Act.put, List.setIfInBounds_toArray, List.set_cons_zero, List.set_cons_succ]
      refine wpAnyH_take (i := 12) (oi := ⟨_, _, _, _, _, _⟩) (v := ?v15) rfl (by kernel_rfl) (by kernel_rfl) (by kernel_rfl) (fun _ _ _ h => h) ?y15 hS ?_
      case y15 => first | (refine Or.inr ⟨by rfl, ?_⟩; with_reducible rfl) | (refine Or.inl ⟨by rfl, ?_⟩; intro wS hSw; obtain ⟨⟨-, -, -, -, a4, a5, -⟩, -⟩ := seven_box (H.out.later hSw).ln.blk; go_simp; try with_reducible rfl)
      simp only [Act.put, List.setIfInBounds_toArray, List.set_cons_zero, List.set_cons_succ]
      refine wpAnyH_ready (rs := [3]) (by kernel_rfl) (by simp) ?_
      refine AllReadyH.cons (o := ⟨_, _, _, _, _, _⟩) rfl (fun K hK => ?_) AllReadyH.nil
      go_simp
      refine (lnCopied_any wr.drew (H.out.later hS).ln).mono ?_
      rintro e v1 ⟨o, nm', km', rfl, hl, hb⟩
      go_wp2_with fail
      have hS1 := hS.trans (hb.mono hS.size)
      refine hK.out _ _ hS1 (fun hSd => ?_)
      clear hSd hK K
      try simp only [Act.put, List.setIfInBounds_toArray, List.set_cons_zero, List.set_cons_succ]
      have hdr := (Below.refl wr.heap.size wr).drew
      have HC1 := Lib.hid (copy_closeW (room := room) (peak := peak) H.out.ln.ord H.out.ln.n0 H.out.ln.nle H.out.ln.le (HR.out.2.later (hdr.trans hb) (by rw [HM2.out]; exact HSw.out)) HNd.out HVk.out HD.out hl (show m2 ≤ wr.drew.heap.size from by rw [HM2.out]; exact HSw.out) (Nat.le_refl _) (show m2 < wr.drew.heap.size from HR.out.2.map.lt))
      clear hdr hl hb hS
      refine wpAnyH_take (i := 13) (oi := ⟨_, _, _, _, _, _⟩) (v := ?v16) rfl (by kernel_rfl) (by kernel_rfl) (by kernel_rfl) (fun _ _ _ h => h) ?y16 hS1 ?_
      case y16 => first | (refine Or.inr ⟨by rfl, ?_⟩; with_reducible rfl) | (refine Or.inl ⟨by rfl, ?_⟩; intro wS hSw; go_simp; try with_reducible rfl)
      simp only [Act.put, List.setIfInBounds_toArray, List.set_cons_zero, List.set_cons_succ]
      refine wpAnyH_ready (rs := [14]) (by kernel_rfl) (by simp) ?_
      refine AllReadyH.cons (o := ⟨_, _, _, _, _, _⟩) rfl (fun K hK => ?_) AllReadyH.nil
      go_simp
      refine hK.out _ _ (hS1.alloc hS1.size _) (fun hS2 => ?_)
      clear hK K
      try simp only [Act.put, List.setIfInBounds_toArray, List.set_cons_zero, List.set_cons_succ]
      refine wpAnyH_take (i := 15) (oi := ⟨_, _, _, _, _, _⟩) (v := ?v17) rfl (by kernel_rfl) (by kernel_rfl) (by kernel_rfl) (fun _ _ _ h => h) ?y17 hS2 ?_
      case y17 => first | (refine Or.inr ⟨by rfl, ?_⟩; with_reducible rfl) | (refine Or.inl ⟨by rfl, ?_⟩; intro wS hSw; go_simp; try with_reducible rfl)
      simp only [Act.put, List.setIfInBounds_toArray, List.set_cons_zero, List.set_cons_succ]
      refine wpAnyH_done (by kernel_rfl) ?_ _
      clear hS1 hS2
      go_wp2
      go_ret
      obtain ⟨L', h1, h2, h3⟩ := HC1.out
      have e := HM2.out
      clear HM2
      subst e
      exact ⟨_, _, _, _, _, L', rfl, h1, h2, h3⟩
    · intro x v w2 cnt2 hx r hfr hv hnin hrg2 hlt hg2 hs2 hen
      rw [show kyK.val x = .agg #[.int .i64 x.rule, .int .i64 x.level, .int .i64 x.place] from rfl]
      replace hen : (Instr.entry (.pointer (some ⟨ri, 0, none⟩))).run Tryz.prog w2 = .ok (.tuple #[.agg #[.int .i64 x.rule, .int .i64 x.level, .int .i64 x.place], v]) w2 := hen
      have hrL := (fndK_some hfr).1
      have HFr := Lib.hid hfr
      have HNin := Lib.hid hnin
      have HLt := Lib.hid hlt
      have HLe := Lib.hid hrg.left_eq
      have hc2 := HR.out.2.iter hg2 (by obtain ⟨a, b, c, d⟩ := hrg.iter; exact ⟨_, a, b, c, d⟩) (by have := HRi.out; omega)
      have HR2 := Lib.hid (And.intro hrg2 hc2)
      have HBe2 := Lib.hid (show Below w.heap.size w w2 from by have := hc2.bel; rw [HM2.out] at this; exact this)
      have hz := HSz.out r hrL
      have HZ1 := Lib.hid hz.1
      have HZ2 := Lib.hid hz.2
      have hto := (H.out.en.tws r hrL).1
      have hko := (H.out.en.ivs r hrL).1
      have HTo := Lib.hid hto.got
      have HKo := Lib.hid hko.got
      obtain ⟨at1, ct, hat⟩ := own_val hto
      obtain ⟨ak1, ck, hak⟩ := own_val hko
      obtain ⟨rk, rn, ⟨xis, xen, xfar, xtree, xtou, xtv, xkv⟩⟩ := r
      simp only at hat hak HTo HKo HZ1 HZ2 hv
      subst hat hak hv
      clear hrL hfr hnin hlt hrg hrg2 hg2 hs2 hc2 hz hto hko
      unfold entv at hen
      simp only at hen
      go_upto_region 7 with (fail)
      have hn2 := two_new w2 (.cells #[.int .i64 x.rule, .int .i64 x.level, .int .i64 x.place] 24 (0, 0)) (.cells #[.bool xis, .int .i64 xen, .int .i64 xfar, .slice at1 xtree.length ct, .slice ak1 xtou.length ck] 30 (0, 0))
      have HN2 := Lib.hid hn2
      refine gen_world (S := fun v => Below w2.heap.size w2 v ∧ v.heap[w2.heap.size]? = some (.cells #[.int .i64 x.rule, .int .i64 x.level, .int .i64 x.place] 24 (0, 0)) ∧ v.heap[w2.heap.size + 1]? = some (.cells #[.bool xis, .int .i64 xen, .int .i64 xfar, .slice at1 xtree.length ct, .slice ak1 xtou.length ck] 30 (0, 0))) hn2 (fun v hv => ?_)
      obtain ⟨hbv, hxv, hzv⟩ := hv
      obtain ⟨y, hy⟩ : ∃ y, y = w2.heap.size := ⟨_, rfl⟩
      rw [← hy] at hxv hzv ⊢
      have HXv := Lib.hid hxv
      have HZv := Lib.hid hzv
      have HRv := Lib.hid (And.intro (range_later HR2.out.1 hbv) (HR2.out.2.later hbv (by rw [HM2.out]; exact HBe2.out.size)))
      have HBv := Lib.hid (HBe2.out.trans (hbv.mono HBe2.out.size))
      clear hn2 hbv hxv hzv hy hen HR2 HBe2 HN2 HR
      refine wp_region_held_drew (S := fun z => z.heap[y]? = some (.cells #[.int .i64 x.rule, .int .i64 x.level, .int .i64 x.place] 24 (0, 0)) ∧ z.heap[y + 1]? = some (.cells #[.bool xis, .int .i64 xen, .int .i64 xfar, .slice at1 xtree.length ct, .slice ak1 xtou.length ck] 30 (0, 0))) (by kernel_rfl) ⟨HXv.out, HZv.out⟩ (fun hS => ?_)
      refine wpAnyH_take (i := 0) (oi := ⟨_, _, _, _, _, _⟩) (v := ?v1) rfl (by kernel_rfl) (by kernel_rfl) (by kernel_rfl) (fun _ _ _ h => h) ?y1 hS ?_
      case y1 => first | (refine Or.inr ⟨by rfl, ?_⟩; with_reducible rfl) | (refine Or.inl ⟨by rfl, ?_⟩; intro wS hSw; obtain ⟨b0, b1, b2, -⟩ := three_box hSw.1; obtain ⟨⟨d0, d1, d2, d3, d4⟩, -⟩ := five_box hSw.2; go_simp; try with_reducible rfl)
      simp only [Act.put, List.setIfInBounds_toArray, List.set_cons_zero, List.set_cons_succ]
      refine wpAnyH_take (i := 1) (oi := ⟨_, _, _, _, _, _⟩) (v := ?v2) rfl (by kernel_rfl) (by kernel_rfl) (by kernel_rfl) (fun _ _ _ h => h) ?y2 hS ?_
      case y2 => first | (refine Or.inr ⟨by rfl, ?_⟩; with_reducible rfl) | (refine Or.inl ⟨by rfl, ?_⟩; intro wS hSw; obtain ⟨b0, b1, b2, -⟩ := three_box hSw.1; obtain ⟨⟨d0, d1, d2, d3, d4⟩, -⟩ := five_box hSw.2; go_simp; try with_reducible rfl)
      simp only [Act.put, List.setIfInBounds_toArray, List.set_cons_zero, List.set_cons_succ]
      refine wpAnyH_take (i := 2) (oi := ⟨_, _, _, _, _, _⟩) (v := ?v3) rfl (by kernel_rfl) (by kernel_rfl) (by kernel_rfl) (fun _ _ _ h => h) ?y3 hS ?_
      case y3 => first | (refine Or.inr ⟨by rfl, ?_⟩; with_reducible rfl) | (refine Or.inl ⟨by rfl, ?_⟩; intro wS hSw; obtain ⟨b0, b1, b2, -⟩ := three_box hSw.1; obtain ⟨⟨d0, d1, d2, d3, d4⟩, -⟩ := five_box hSw.2; go_simp; try with_reducible rfl)
      simp only [Act.put, List.setIfInBounds_toArray, List.set_cons_zero, List.set_cons_succ]
      refine wpAnyH_ready (rs := [3]) (by kernel_rfl) (by simp) ?_
      refine AllReadyH.cons (o := ⟨_, _, _, _, _, _⟩) rfl (fun K hK => ?_) AllReadyH.nil
      go_simp
      have hdr := (Below.refl v.heap.size v).drew
      refine (copied_any ⟨xis, xen, xfar, xtree, xtou, .slice at1 xtree.length ct, .slice ak1 xtou.length ck⟩ v.drew (HTo.out.later (HBv.out.trans (hdr.mono HBv.out.size))) (HKo.out.later (HBv.out.trans (hdr.mono HBv.out.size))) HZ1.out HZ2.out).mono ?_
      rintro e v2 ⟨tv, kv, rfl, ho1, ho2, hb⟩
      have hb : Below v.heap.size v v2 := hdr.trans hb
      simp only at ho1 ho2
      obtain ⟨a1, c1, rfl⟩ := own_val ho1
      obtain ⟨a2, c2, rfl⟩ := own_val ho2
      have hmv : m2 ≤ v.heap.size := by rw [HM2.out]; exact HBv.out.size
      have hc2 := HRv.out.2.later hb hmv
      have hx2 := (hb.block _ (lt_of_block HXv.out)).trans HXv.out
      have hz2 := (hb.block _ (lt_of_block HZv.out)).trans HZv.out
      have hr2 := range_later HRv.out.1 hb
      obtain ⟨v3, hrun, hm3, hk3⟩ := hc2.map.put Tryz.underlying72 (by have := H.out.ln.le; have := H.out.ln.nle; have := HVl.out; omega) hx (.agg #[.bool xis, .int .i64 xen, .int .i64 xfar, .slice a1 xtree.length c1, .slice a2 xtou.length c2])
      have hc3 := hc2.next H.out.ln.ord.once HFr.out HNin.out (e := ⟨xis, xen, xfar, xtree, xtou, .slice a1 xtree.length c1, .slice a2 xtou.length c2⟩) ⟨rfl, rfl, rfl, rfl, rfl⟩ (ownsRow_base ho1 hmv) (ownsRow_base ho2 hmv) hm3 hk3 (Nat.le_refl _) hc2.map.lt
      have hem : em ≠ m2 := by have := H.out.en.map.lt; have := HM2.out; omega
      have hr3 := hr2.keeps hk3 hem (by have := HRi.out; omega)
      have HF := Lib.hid (And.intro hr3 hc3)
      have HRun := Lib.hid hrun
      have hx3 := hk3.obj hx2 (fun e => by obtain ⟨es, ck, h1⟩ := hc2.map.blk; rw [e, h1] at hx2; simp at hx2)
      have hz3 := hk3.obj hz2 (fun e => by obtain ⟨es, ck, h1⟩ := hc2.map.blk; rw [e, h1] at hz2; simp at hz2)
      have HX3 := Lib.hid (And.intro hx3 hz3)
      have HX2 := Lib.hid (And.intro hx2 hz2)
      clear hdr hb ho1 ho2 hmv hc2 hx2 hz2 hr2 hrun hm3 hk3 hc3 hem hr3 hx3 hz3
      go_wp2_with fail
      refine hK.out _ _ HX2.out (fun hSd => ?_)
      clear hSd hK K
      try simp only [Act.put, List.setIfInBounds_toArray, List.set_cons_zero, List.set_cons_succ]
      refine wpAnyH_ready (rs := [4]) (by kernel_rfl) (by simp) ?_
      refine AllReadyH.cons (o := ⟨_, _, _, _, _, _⟩) rfl (fun K hK => ?_) AllReadyH.nil
      have hrun : (Instr.mapUpdate 72 (.map (some m2)) (.agg #[.int .i64 x.rule, .int .i64 x.level, .int .i64 x.place]) (.agg #[.bool xis, .int .i64 xen, .int .i64 xfar, .slice a1 xtree.length c1, .slice a2 xtou.length c2])).run Tryz.prog v2 = .ok () v3 := HRun.out
      go_simp
      refine hK.out _ _ HX3.out (fun hSd => ?_)
      clear hSd hK K hrun
      try simp only [Act.put, List.setIfInBounds_toArray, List.set_cons_zero, List.set_cons_succ]
      refine wpAnyH_done (by kernel_rfl) ?_ _
      clear hS
      go_roundw
      case rel => exact ⟨_, _, _, _, _, _, _, _, _, _, _, ⟨cnt2, vs ++ [x], _, by have := HVl.out; have := HLt.out; rw [List.length_append, List.length_singleton]; omega, HF⟩, rfl⟩
      case measure => rw [HF.out.1.left_eq, HLe.out]; exact HLt.out
end Go.Proofs.YtpchjpmkkiopiaaGreat
