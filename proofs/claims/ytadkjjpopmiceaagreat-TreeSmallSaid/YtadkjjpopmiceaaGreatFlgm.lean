import Derived.Test.YtadkjjpopmiceaaGreatFltm
namespace Go.Proofs.YtadkjjpopmiceaaGreat
open Go.RowKit Go.Lib

/-- a twig is stored. -/
theorem Row.store {B : Nat} {w : World} {g n cap : Nat} {L : List Tw} (h : Row B w (.slice (some ⟨g, 0, none⟩) n cap) n L) {q : Nat} (hq : q < L.length) (t : Tw) :
    Row B (((((w.setCell ⟨g, q * 5, none⟩ (.int .i64 t.rule)).setCell ⟨g, q * 5 + 1, none⟩ (.int .i64 t.lev)).setCell ⟨g, q * 5 + 2, none⟩ (.int .i64 t.fr)).setCell ⟨g, q * 5 + 3, none⟩ (.int .i64 t.to)).setCell ⟨g, q * 5 + 4, none⟩ (.int .i64 t.kids)) (.slice (some ⟨g, 0, none⟩) n cap) n (L.set q t) := by
  have h0 := own_setC twc_len h q hq 0 (by omega) ⟨t.rule, L[q].lev, L[q].fr, L[q].to, L[q].kids⟩ (.int .i64 t.rule) (by simp [twc])
  have h1 := own_setC twc_len h0 q (by simpa using hq) 1 (by omega) ⟨t.rule, t.lev, L[q].fr, L[q].to, L[q].kids⟩ (.int .i64 t.lev) (by simp [twc])
  have h2 := own_setC twc_len h1 q (by simpa using hq) 2 (by omega) ⟨t.rule, t.lev, t.fr, L[q].to, L[q].kids⟩ (.int .i64 t.fr) (by simp [twc])
  have h3 := own_setC twc_len h2 q (by simpa using hq) 3 (by omega) ⟨t.rule, t.lev, t.fr, t.to, L[q].kids⟩ (.int .i64 t.to) (by simp [twc])
  have h4 := own_setC twc_len h3 q (by simpa using hq) 4 (by omega) t (.int .i64 t.kids) (by simp [twc])
  simp only [List.set_set, Nat.add_zero] at h4
  exact h4
theorem own_kept {w w' : World} {base C n : Nat} {e e2 : TypeId} {v : Value} {xs : List Value} {b2 C2 n2 : Nat} {v2 : Value} {ys : List Value} (h : w.ownsRow base e C v n xs) (hg : w.grownBy w' v2.ownBlock) (h2 : w.ownsRow b2 e2 C2 v2 n2 ys) (hne : e ≠ e2) : w'.ownsRow base e C v n xs := by
  refine h.kept hg ?_
  cases hv : v.ownBlock with
  | none => exact .inl rfl
  | some b =>
    refine .inr (fun hb => ?_)
    rcases h.2 with ⟨h1, -⟩ | ⟨g', cap, cur, h1, -, h3, -⟩
    · rw [h1] at hv
      simp [Value.ownBlock] at hv
    · rw [h1] at hv
      simp only [Value.ownBlock, Option.some.injEq] at hv
      subst hv
      exact own_ne' h3 hne h2 hb.symm
theorem own_kept' {w w' : World} {base C n : Nat} {e : TypeId} {v v2 : Value} {xs : List Value} (h : w.ownsRow base e C v n xs) (hg : w.grownBy w' v2.ownBlock) (hne : ∀ b, v2.ownBlock = some b → v.ownBlock ≠ some b) : w'.ownsRow base e C v n xs := by
  refine h.kept hg ?_
  cases hv : v.ownBlock with
  | none => exact .inl rfl
  | some b => exact .inr (fun hb => hne b hb.symm hv)
theorem own_pos {w : World} {B n p C : Nat} {e : TypeId} {a : Option Addr} {xs : List Value} (h : w.ownsRow B e C (.slice a n p) n xs) (hn : 0 < n) : ∃ g, a = some ⟨g, 0, none⟩ := by
  rcases h.2 with ⟨-, h1⟩ | ⟨g, cap, cur, h1, -⟩
  · omega
  · simp only [Value.slice.injEq] at h1
    exact ⟨g, h1.1⟩
/-- the lists that have grown; the first k of them. -/
structure Gs (K : List (Nat × Obj)) (B : Nat) (w : World) (V : Value) (vs : List Value) (m : Nat) (nn : Nat → Nat) (G : Value) (gv : List Value) (k : Nat) (X : Nat → List Tw) : Prop where
  ls : w.ownsRow B 22 1 G m gv
  len : gv.length = m
  ne : ∀ b, G.ownBlock = some b → V.ownBlock ≠ some b
  nk : ∀ q ∈ K, G.ownBlock ≠ some q.1
  rw : ∀ j, j < k → Row B w (slAt gv j) (nn j + 64) (X j)
  av : ∀ j, j < k → ∀ b, (slAt gv j).ownBlock = some b → ∀ i, i < m → i ≠ j → (slAt vs i).ownBlock ≠ some b
  ag : ∀ j, j < k → ∀ b, (slAt gv j).ownBlock = some b → ∀ i, i < k → i ≠ j → (slAt gv i).ownBlock ≠ some b
theorem Gs.later {K : List (Nat × Obj)} {B : Nat} {w w' : World} {V : Value} {vs : List Value} {m : Nat} {nn : Nat → Nat} {G : Value} {gv : List Value} {k : Nat} {X : Nat → List Tw} (h : Gs K B w V vs m nn G gv k X) (hb : Below w.heap.size w w') : Gs K B w' V vs m nn G gv k X :=
  ⟨(Keeps.ofNew hb (fun _ => False)).row h.ls (fun _ _ h => h), h.len, h.ne, h.nk, fun j hj => (h.rw j hj).later hb, h.av, h.ag⟩
/-- the one that grows: of which lists it lies apart. -/
def Cur (K : List (Nat × Obj)) (vs : List Value) (m : Nat) (gv : List Value) (k : Nat) (vg : Value) : Prop := ∀ b, vg.ownBlock = some b → (∀ j, j < m → j ≠ k → (slAt vs j).ownBlock ≠ some b) ∧ (∀ j, j < k → (slAt gv j).ownBlock ≠ some b) ∧ ∀ q ∈ K, q.1 ≠ b
theorem Row.lt {B : Nat} {w : World} {v : Value} {n : Nat} {L : List Tw} (h : Row B w v n L) : ∀ b, v.ownBlock = some b → B ≤ b ∧ b < w.heap.size := (show World.ownsRow _ _ _ _ _ _ _ from h).lt
/-- something is put behind it. -/
theorem grow {K : List (Nat × Obj)} {B : Nat} {w w' : World} {V : Value} {vs : List Value} {m : Nat} {nn : Nat → Nat} {F : Nat → List Tw} {G : Value} {gv : List Value} {k n n' : Nat} {X : Nat → List Tw} {vg vg' : Value} {L L' : List Tw}
    (hF : Fs K B w V vs m nn F) (hG : Gs K B w V vs m nn G gv k X) (hk : k < m) (hL : Row B w vg n L) (hC : Cur K vs m gv k vg) (hL' : Row B w' vg' n' L') (hg : w.grownBy w' vg.ownBlock) (hkp : KeptBy w w' vg n vg' n')
    (hn : nn k ≤ n) (hnn : n ≤ n') (hp : F k = L'.take (nn k)) : Fs K B w' V vs m nn F ∧ Gs K B w' V vs m nn G gv k X ∧ Cur K vs m gv k vg' := by
  refine ⟨⟨own_kept hF.ls hg hL (by decide), hF.len, fun j hj => ?_, hF.di, Nat.le_trans hF.bw hg.size, fun q hq => ⟨(hg.block q.1 (lt_of_block (hF.kn q hq).1) (fun e => (hC q.1 e.symm).2.2 q hq rfl)).trans (hF.kn q hq).1, (hF.kn q hq).2⟩⟩, ⟨own_kept hG.ls hg hL (by decide), hG.len, hG.ne, hG.nk, fun j hj => ?_, hG.av, hG.ag⟩, fun b hb => ?_⟩
  · by_cases hjk : j = k
    · subst hjk
      refine kept_first (by omega) hL (hF.rw j hj) hn hnn hg hkp hL' ?_
      rw [hp, flat_takeC twc_len]
    · exact own_kept' (hF.rw j hj) hg (fun b hb => (hC b hb).1 j hj hjk)
  · exact own_kept' (hG.rw j hj) hg (fun b hb => (hC b hb).2.1 j hj)
  · rcases hkp.at b hb with h1 | h1
    · exact hC b h1
    · refine ⟨fun j hj hjk he => ?_, fun j hj he => ?_, fun q hq e => ?_⟩
      · have := ((hF.rw j hj).lt b he).2; omega
      · have := ((hG.rw j hj).lt b he).2; omega
      · have := lt_of_block (hF.kn q hq).1; omega
theorem slAt_set {gv : List Value} {k j : Nat} {v : Value} (hk : k < gv.length) : slAt (gv.set k v) j = if j = k then v else slAt gv j := by
  unfold slAt
  rw [List.getD_eq_getElem?_getD, List.getD_eq_getElem?_getD, List.getElem?_set]
  by_cases hjk : j = k
  · subst hjk; simp [hk]
  · rw [if_neg hjk, if_neg (fun e => hjk e.symm)]
theorem Fs.away {K : List (Nat × Obj)} {B : Nat} {w w' : World} {V : Value} {vs : List Value} {m : Nat} {nn : Nat → Nat} {F : Nat → List Tw} {S : Nat → Prop} (h : Fs K B w V vs m nn F) (hk : Keeps S w w') (hV : ∀ b, V.ownBlock = some b → ¬ S b) (hS : ∀ j, j < m → ∀ b, (slAt vs j).ownBlock = some b → ¬ S b) (hK : ∀ q ∈ K, ¬ S q.1) : Fs K B w' V vs m nn F :=
  ⟨hk.row h.ls hV, h.len, fun j hj => (h.rw j hj).off hk (hS j hj), h.di, Nat.le_trans h.bw hk.size, fun q hq => ⟨hk.obj (h.kn q hq).1 (hK q hq), (h.kn q hq).2⟩⟩
theorem Gs.away {K : List (Nat × Obj)} {B : Nat} {w w' : World} {V : Value} {vs : List Value} {m : Nat} {nn : Nat → Nat} {G : Value} {gv : List Value} {k : Nat} {X : Nat → List Tw} {S : Nat → Prop} (h : Gs K B w V vs m nn G gv k X) (hk : Keeps S w w') (hG : ∀ b, G.ownBlock = some b → ¬ S b) (hS : ∀ j, j < k → ∀ b, (slAt gv j).ownBlock = some b → ¬ S b) : Gs K B w' V vs m nn G gv k X :=
  ⟨hk.row h.ls hG, h.len, h.ne, h.nk, fun j hj => (h.rw j hj).off hk (hS j hj), h.av, h.ag⟩
theorem Gs.zero {K : List (Nat × Obj)} {B : Nat} {w : World} {V : Value} {vs : List Value} {m : Nat} {nn : Nat → Nat} {G : Value} {gv : List Value} {k : Nat} {X Y : Nat → List Tw} (h : Gs K B w V vs m nn G gv k X) : Gs K B w V vs m nn G gv 0 Y :=
  ⟨h.ls, h.len, h.ne, h.nk, fun j hj => absurd hj (by omega), fun j hj => absurd hj (by omega), fun j hj => absurd hj (by omega)⟩
/-- what was handed out grows. -/
theorem Cur.of {K : List (Nat × Obj)} {B : Nat} {w : World} {V : Value} {vs : List Value} {m : Nat} {nn : Nat → Nat} {F : Nat → List Tw} {G : Value} {gv : List Value} {k : Nat} {X : Nat → List Tw} (hF : Fs K B w V vs m nn F) (hG : Gs K B w V vs m nn G gv k X) (hk : k < m) : Cur K vs m gv k (slAt vs k) :=
  fun b hb => ⟨fun j hj hjk he => hF.di k j hk hj (fun e => hjk e.symm) b hb he, fun j hj he => hG.av j hj b he k hk (by omega) hb, fun q hq e => (hF.kn q hq).2.2 k hk (e ▸ hb)⟩
def updX (X : Nat → List Tw) (k : Nat) (L : List Tw) : Nat → List Tw := fun j => if j = k then L else X j
/-- it is stored. -/
theorem Gs.store {K : List (Nat × Obj)} {B : Nat} {w : World} {V : Value} {vs : List Value} {m : Nat} {nn : Nat → Nat} {g cap : Nat} {gv : List Value} {k : Nat} {X : Nat → List Tw} {F : Nat → List Tw} {vg : Value} {L : List Tw}
    (h : Gs K B w V vs m nn (.slice (some ⟨g, 0, none⟩) m cap) gv k X) (hF : Fs K B w V vs m nn F) (hk : k < m) (hL : Row B w vg (nn k + 64) L) (hC : Cur K vs m gv k vg) (h1 : vg.oneCell' = true) :
    Fs K B (w.setCell ⟨g, k, none⟩ vg) V vs m nn F ∧ Gs K B (w.setCell ⟨g, k, none⟩ vg) V vs m nn (.slice (some ⟨g, 0, none⟩) m cap) (gv.set k vg) (k + 1) (updX X k L) := by
  have hK : Keeps (fun b => b = g) w (w.setCell ⟨g, k, none⟩ vg) := (Keeps.refl (fun b => b = g) w).setCell (p := ⟨g, k, none⟩) rfl _
  have hgl := h.len
  have hgb : ∃ cur, w.heap[g]? = some (.cells cur 22 (0, 0)) := by
    obtain ⟨-, -, cur, h2, -⟩ := own_open h.ls
    exact ⟨cur, h2⟩
  obtain ⟨cur, hgb⟩ := hgb
  have hoff : ∀ (v : Value) (n : Nat) (L : List Tw), Row B w v n L → Row B (w.setCell ⟨g, k, none⟩ vg) v n L := fun v n L hr => hr.off hK (fun b hb e => by
    subst e
    exact own_ne' hgb (by decide) hr hb)
  have hls : (w.setCell ⟨g, k, none⟩ vg).ownsRow B 22 1 (.slice (some ⟨g, 0, none⟩) m cap) m (gv.set k vg) := by
    have e : ∀ l : List Value, l = l.flatMap fun x => [x] := fun l => by simp
    have h2 := h.ls
    rw [e gv] at h2
    have := own_setC (C := 1) (fun _ => rfl) h2 k (by omega) 0 (by omega) vg vg rfl
    rw [Nat.mul_one, Nat.add_zero] at this
    rw [e (gv.set k vg)]
    exact this
  refine ⟨⟨hK.row hF.ls (fun b hb e => h.ne b (by subst e; rfl) hb), hF.len, fun j hj => hoff _ _ _ (hF.rw j hj), hF.di, Nat.le_trans hF.bw hK.size, fun q hq => ⟨hK.obj (hF.kn q hq).1 (fun e => h.nk q hq (by rw [e]; rfl)), (hF.kn q hq).2⟩⟩, ⟨hls, by simp [h.len], h.ne, h.nk, fun j hj => ?_, fun j hj b hb i hi hij => ?_, fun j hj b hb i hi hij => ?_⟩⟩
  · rw [slAt_set (by omega)]
    unfold updX
    by_cases hjk : j = k
    · rw [if_pos hjk, if_pos hjk, hjk]; exact hoff _ _ _ hL
    · rw [if_neg hjk, if_neg hjk]; exact hoff _ _ _ (h.rw j (by omega))
  · rw [slAt_set (by omega)] at hb
    by_cases hjk : j = k
    · rw [if_pos hjk] at hb
      exact (hC b hb).1 i hi (by omega)
    · rw [if_neg hjk] at hb
      exact h.av j (by omega) b hb i hi hij
  · rw [slAt_set (by omega)] at hb ⊢
    by_cases hjk : j = k
    · rw [if_pos hjk] at hb
      rw [if_neg (by omega)]
      exact (hC b hb).2.1 i (by omega)
    · rw [if_neg hjk] at hb
      by_cases hik : i = k
      · rw [if_pos hik]
        exact fun e => (hC b e).2.1 j (by omega) hb
      · rw [if_neg hik]
        exact h.ag j (by omega) b hb i (by omega) hij
end Go.Proofs.YtadkjjpopmiceaaGreat
