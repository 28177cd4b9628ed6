/-
  append onto a row of the call's own: what it leaves of the old row.
-/
import Derived.Test.YtndminmefacmnaaRow
namespace Go.Proofs.Ytndminmefacmnaa
open Go.RowKit Go.Lib

/-- where the new row lies, and what is left of the old one. -/
def KeptBy (w w' : World) (v : Value) (n : Nat) (v' : Value) (n' : Nat) : Prop :=
  (∃ g cap, v = .slice (some ⟨g, 0, none⟩) n cap ∧ v' = .slice (some ⟨g, 0, none⟩) n' cap) ∨ (w.grownBy w' none ∧ ∀ k, v'.ownBlock = some k → w.heap.size ≤ k)
theorem run_append_kept {P : Program} (w : World) (base : Nat) (t ty e : TypeId) (i : TypeInfo) (z : Value) (size bytes : Nat) (ht : P.underlying t = some (.slice e)) (hi : P.info? e = some i) (hz : i.zero = some z)
    (hsize : i.size = size) (hby : i.bytes = bytes) (hzs : z.cells.size = size) (hsz : 0 < size)
    (v : Value) (n : Nat) (xs : List Value) (hown : w.ownsRow base e size v n xs)
    (a : Addr) (m c : Nat) (news : List Value) (hl : news.length = m * size) (hnews : ∀ j u, news[j]? = some u → w.cell? (a.add j) = some u) (h1 : ∀ u ∈ news, u.oneCell' = true)
    (hm : 0 < m) (h63 : n + m ≤ maxLen) (hbytes : (n + m) * bytes ≤ 140737488355328) (hbase : base ≤ w.heap.size) :
    ∃ v' w', (Builtin.append_ #[t, t] ty #[v, .slice (some a) m c]).run P w = .ok v' w' ∧ w'.ownsRow base e size v' (n + m) (xs ++ news) ∧ w.grownBy w' v.ownBlock ∧ KeptBy w w' v n v' (n + m) := by
  obtain ⟨v', w', hr, h2, h3, -⟩ := run_append_own (P := P) w base t ty e i z size bytes ht hi hz hsize hby hzs hsz v n xs hown a m c news hl hnews h1 h63 hbytes hbase
  refine ⟨v', w', hr, h2, h3, ?_⟩
  subst hsize
  subst hby
  have hsmall : n + m ≤ 9223372036854775807 := by simp only [maxLen] at h63; omega
  have hnew : ∀ o : Obj, w.grownBy (w.drew.alloc o) none := fun o => ⟨rfl, rfl, rfl, by simp, fun k hk _ => Below.heap_alloc w.drew o k hk⟩
  rcases hown.2 with ⟨rfl, rfl⟩ | ⟨g, cap, cur, rfl, hbg, hg, hnc, hcm, hcs, htake⟩
  · have hr2 := run_append_nil (P := P) w t ty e i z ht hi hz a m c news hl hnews (by omega) (by omega) (by have hb := hbytes; simp only [Nat.zero_add] at hb; omega)
    rw [hr] at hr2
    simp only [Result.ok.injEq] at hr2
    obtain ⟨rfl, rfl⟩ := hr2
    exact .inr ⟨hnew _, fun k hk => by simp [Value.ownBlock] at hk; omega⟩
  · by_cases hroom : n + m ≤ cap
    · have hfit : n * i.size + news.length ≤ cur.size := by rw [hl, hcs, ← Nat.add_mul]; exact Nat.mul_le_mul_right _ hroom
      have hr2 := run_append_room (P := P) w t ty e i ht hi g n cap cur hg a m c news hl hnews h1 hroom hfit
      rw [hr] at hr2
      simp only [Result.ok.injEq] at hr2
      obtain ⟨rfl, -⟩ := hr2
      exact .inl ⟨g, cap, rfl, rfl⟩
    · have holds : ∀ j u, xs[j]? = some u → w.cell? ((⟨g, 0, none⟩ : Addr).add j) = some u := hown.cells (g := g) rfl
      have hr2 := run_append_grow (P := P) w t ty e i z ht hi hz ⟨g, 0, none⟩ n cap xs hown.1 holds a m c news hl hnews (by omega) (by omega) (growslice_fits (by omega) hbytes)
      rw [hr] at hr2
      simp only [Result.ok.injEq] at hr2
      obtain ⟨rfl, rfl⟩ := hr2
      exact .inr ⟨hnew _, fun k hk => by simp [Value.ownBlock] at hk; omega⟩
theorem wpList_append_kept {P : Program} (w : World) {ops : Array Oper} {rest : List Oper} {o : Oper} {a : Act} {Q : Exit → Act → World → Prop} (hgd : o.guard = none) (s x : Operand) (t : TypeId)
    (ho : o.op = .call { callee := .builtin .append, args := #[s, x], argTypes := #[t, t] })
    (base : Nat) (e : TypeId) (i : TypeInfo) (z : Value) (size bytes : Nat) (ht : P.underlying t = some (.slice e)) (hi : P.info? e = some i) (hz : i.zero = some z)
    (hsize : i.size = size) (hby : i.bytes = bytes) (hzs : z.cells.size = size) (hsz : 0 < size)
    (v : Value) (n : Nat) (xs : List Value) (hs : a.eval s = v) (hown : w.ownsRow base e size v n xs)
    (ad : Addr) (m c : Nat) (news : List Value) (hx : a.eval x = .slice (some ad) m c) (hl : news.length = m * size) (hnews : ∀ j u, news[j]? = some u → w.cell? (ad.add j) = some u) (h1 : ∀ u ∈ news, u.oneCell' = true)
    (hm : 0 < m) (h63 : n + m ≤ maxLen) (hbytes : (n + m) * bytes ≤ 140737488355328) (hbase : base ≤ w.heap.size)
    (h : ∀ v' w', w'.ownsRow base e size v' (n + m) (xs ++ news) → w.grownBy w' v.ownBlock → KeptBy w w' v n v' (n + m) → wpList P ops Q rest (a.put o.dst v') w') :
    wpList P ops Q (o :: rest) a w := by
  obtain ⟨v', w', hr, h2, h3, h4⟩ := run_append_kept (P := P) w base t o.type e i z size bytes ht hi hz hsize hby hzs hsz v n xs hown ad m c news hl hnews h1 hm h63 hbytes hbase
  refine wpList_plain hgd fun K hK => ?_
  unfold Oper.wp execOp
  simp only [ho, resolve, invoke, builtin, Sem.run_bind, Sem.run_pure, Result.andThen_ok, List.map_toArray, List.map_cons, List.map_nil, hs, hx, hr]
  exact hK _ _ (h _ _ h2 h3 h4)
/-- the first of an own row. -/
theorem own_first {w : World} {base g n n0 cap C : Nat} {e : TypeId} {xs : List Value} (h : w.ownsRow base e C (.slice (some ⟨g, 0, none⟩) n cap) n xs) (hn : n0 ≤ n) : w.ownsRow base e C (.slice (some ⟨g, 0, none⟩) n0 cap) n0 (xs.take (n0 * C)) := by
  obtain ⟨h0, hb, cur, hg, h1, h2, h3, ht⟩ := own_open h
  refine own_shut ?_ hb hg (by omega) h2 h3 ?_
  · rw [List.length_take, h0]
    exact Nat.min_eq_left (Nat.mul_le_mul_right _ hn)
  · rw [← ht, List.take_take, Nat.min_eq_left (Nat.mul_le_mul_right _ hn)]
/-- two rows in one block have one room. -/
theorem own_room {w : World} {base b2 g n n0 cap cap0 C : Nat} {e : TypeId} {xs ys : List Value} (hC : 0 < C) (h : w.ownsRow base e C (.slice (some ⟨g, 0, none⟩) n cap) n xs) (h2 : w.ownsRow b2 e C (.slice (some ⟨g, 0, none⟩) n0 cap0) n0 ys) : cap0 = cap := by
  obtain ⟨-, -, cur, hg, -, -, h3, -⟩ := own_open h
  obtain ⟨-, -, cur2, hg2, -, -, h4, -⟩ := own_open h2
  rw [hg] at hg2
  simp only [Option.some.injEq, Obj.cells.injEq, and_true, true_and] at hg2
  subst hg2
  rw [h3] at h4
  exact (Nat.eq_of_mul_eq_mul_right hC h4).symm
/-- a row that the appended one was the first part of, is as it was. -/
theorem kept_first {w w' : World} {base C n n' n0 : Nat} {e : TypeId} {v v' v0 : Value} {xs ys zs : List Value} (hC : 0 < C) (hv : w.ownsRow base e C v n xs) (h0 : w.ownsRow base e C v0 n0 ys) (hn : n0 ≤ n) (hnn : n ≤ n')
    (hg : w.grownBy w' v.ownBlock) (hk : KeptBy w w' v n v' n') (h' : w'.ownsRow base e C v' n' zs) (hp : ys = zs.take (n0 * C)) : w'.ownsRow base e C v0 n0 ys := by
  have hold : w.grownBy w' none → w'.ownsRow base e C v0 n0 ys := fun h => h0.kept h (by cases v0.ownBlock <;> simp)
  rcases hk with ⟨g, cap, rfl, rfl⟩ | ⟨h1, -⟩
  · by_cases he : v0.ownBlock = some g
    · rcases h0.2 with ⟨rfl, -⟩ | ⟨g0, cap0, cur, rfl, -⟩
      · simp [Value.ownBlock] at he
      · simp only [Value.ownBlock, Option.some.injEq] at he
        subst he
        have := own_room hC hv h0
        subst this
        rw [hp]
        exact own_first h' (Nat.le_trans hn hnn)
    · exact h0.kept hg (.inr (by simpa [Value.ownBlock] using he))
  · exact hold h1
/-- the new row's block. -/
theorem KeptBy.at {w w' : World} {v v' : Value} {n n' : Nat} (h : KeptBy w w' v n v' n') : ∀ k, v'.ownBlock = some k → v.ownBlock = some k ∨ w.heap.size ≤ k := by
  rcases h with ⟨g, cap, rfl, rfl⟩ | ⟨-, h⟩
  · exact fun k hk => .inl hk
  · exact fun k hk => .inr (h k hk)
end Go.Proofs.Ytndminmefacmnaa
