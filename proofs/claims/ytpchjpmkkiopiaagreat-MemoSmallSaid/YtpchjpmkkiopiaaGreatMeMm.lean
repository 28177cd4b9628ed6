import Derived.Test.YtpchjpmkkiopiaaGreatMeKm
import Derived.Maps.RangeWalk
namespace Go.Proofs.YtpchjpmkkiopiaaGreat
open Go.RowKit Go.Lib Go.Maps

section
variable {k : TypeId} {κ : Type} {K : KK k κ} {w : World} {m r s cnt : Nat} {f : κ → Option Value} {vs : List κ}
theorem wpList_range_V {ops : Array Oper} {rest : List Oper} {o : Oper} {a : Act} {Q : Exit → Act → World → Prop} (hg : o.guard = none) (mm : Operand) (t : TypeId) (hop : o.op = Op.range t mm) {e : TypeId} (ht : Tryz.prog.underlying t = some (.map k e))
    (hm : a.eval mm = .map (some m)) (h : MapV K w m s f)
    (hK : ∀ w', RangeV K w' m w.heap.size s f [] s → w.grownBy w' none → wpList Tryz.prog ops Q rest (a.put o.dst (.pointer (some ⟨w.heap.size, 0, none⟩))) w') :
    wpList Tryz.prog ops Q (o :: rest) a w := by
  refine wpList_plain hg fun K' hK' => ?_
  obtain ⟨w', hrun, r1, r2⟩ := h.range ht
  unfold Oper.wp
  simp [execOp, hop, hm, hrun, Result.andThen]
  exact hK' _ _ (hK w' r1 r2)
theorem wpList_next_V {ops : Array Oper} {rest : List Oper} {o : Oper} {a : Act} {Q : Exit → Act → World → Prop} (hg : o.guard = none) (it : Operand) (hop : o.op = Op.next it false)
    (hit : a.eval it = .pointer (some ⟨r, 0, none⟩)) (h : RangeV K w m r s f vs cnt)
    (hDone : (∀ x, K.wf x → ((f x).isSome = true ↔ x ∈ vs)) → wpList Tryz.prog ops Q rest (a.put o.dst (.tuple #[.bool false])) w)
    (hMore : ∀ (x : κ) (v : Value) (w' : World) (cnt' : Nat), K.wf x → f x = some v → x ∉ vs → RangeV K w' m r s f (vs ++ [x]) cnt' → cnt' < cnt →
      w.grownBy w' (some r) → w'.heap.size = w.heap.size → (Instr.entry (.pointer (some ⟨r, 0, none⟩))).run Tryz.prog w' = .ok (.tuple #[K.val x, v]) w' → wpList Tryz.prog ops Q rest (a.put o.dst (.tuple #[.bool true, K.val x, v])) w') :
    wpList Tryz.prog ops Q (o :: rest) a w := by
  refine wpList_plain hg fun K' hK' => ?_
  unfold Oper.wp
  rcases h.next o.type with ⟨hd, hrun⟩ | ⟨x, v, w', cnt', h1, h2, h3, hrun, h4, h5, h6, h7, h8⟩
  · simp [execOp, hop, hit, hrun, Result.andThen]
    exact hK' _ _ (hDone hd)
  · simp [execOp, hop, hit, hrun, Result.andThen]
    exact hK' _ _ (hMore x v w' cnt' h1 h2 h3 h4 h5 h6 h7 h8)
end
/-- what a record is, but for where its entry's slices lie. -/
def plR (r : Rec) : Ky × Int × Bool × Int × Int × List Tw × List Int := (r.k, r.n, r.x.is, r.x.en, r.x.far, r.x.tree, r.x.tou)
def SameX (x y : Ent) : Prop := x.is = y.is ∧ x.en = y.en ∧ x.far = y.far ∧ x.tree = y.tree ∧ x.tou = y.tou
/-- what a round of Copy keeps: the keys vs have come; g: their new entries. -/
structure CpS (B : Nat) (w wr : World) (m2 : Nat) (L : List Rec) (vs : List Ky) (g : Ky → Ent) : Prop where
  map : MapV kyK wr m2 vs.length (fun k => if k ∈ vs then some (entv (g k)) else none)
  ent : ∀ r ∈ L, r.k ∈ vs → SameX (g r.k) r.x ∧ TwOwn B wr (g r.k).tv (g r.k).tree ∧ IvOwn B wr (g r.k).kv (g r.k).tou
  bel : Below B w wr
theorem CpS.later {B : Nat} {w wr w2 : World} {m2 : Nat} {L : List Rec} {vs : List Ky} {g : Ky → Ent} (h : CpS B w wr m2 L vs g) (hb : Below wr.heap.size wr w2) (hB : B ≤ wr.heap.size) : CpS B w w2 m2 L vs g :=
  ⟨h.map.later hb, fun r hr hv => ⟨(h.ent r hr hv).1, row_later (h.ent r hr hv).2.1 hb, row_later (h.ent r hr hv).2.2 hb⟩, h.bel.trans (hb.mono hB)⟩
theorem CpS.iter {B : Nat} {w wr w2 : World} {m2 r0 : Nat} {L : List Rec} {vs : List Ky} {g : Ky → Ent} (h : CpS B w wr m2 L vs g) (hg : wr.grownBy w2 (some r0)) (hr : ∃ a b c d, wr.heap[r0]? = some (.mapIter a b c d)) (hB : B ≤ r0) : CpS B w w2 m2 L vs g := by
  obtain ⟨a, b, c, d, h0⟩ := hr
  have hk := keeps_grown hg
  refine ⟨h.map.keeps hk (fun e => ?_), fun r hr hv => ⟨(h.ent r hr hv).1, row_kept (h.ent r hr hv).2.1 hk (fun k cs hc e => ?_), row_kept (h.ent r hr hv).2.2 hk (fun k cs hc e => ?_)⟩, h.bel.trans (hk.below (Nat.le_of_lt (Nat.lt_of_le_of_lt hB (lt_of_block h0))) (fun k e => by simp at e; omega))⟩
  · obtain ⟨es, ck, h1⟩ := h.map.blk
    simp at e
    rw [e, h0] at h1; simp at h1
  · simp at e
    rw [e, h0] at hc; simp at hc
  · simp at e
    rw [e, h0] at hc; simp at hc
theorem CpS.next {B : Nat} {w wr w2 : World} {m2 : Nat} {L : List Rec} {vs : List Ky} {g : Ky → Ent} {r : Rec} {x : Ky} {e : Ent} (h : CpS B w wr m2 L vs g) (ho : (L.map (·.k)).Nodup) (hr : fndK L x = some r) (hn : x ∉ vs) (he : SameX e r.x) (h1 : TwOwn B wr e.tv e.tree) (h2 : IvOwn B wr e.kv e.tou)
    (hm : MapV kyK w2 m2 (if (if x ∈ vs then some (entv (g x)) else none).isSome then vs.length else vs.length + 1) (setV (fun k => if k ∈ vs then some (entv (g k)) else none) x (some (entv e)))) (hk : Keeps (· = m2) wr w2) (hB : B ≤ m2) (hm2 : m2 < wr.heap.size) :
    CpS B w w2 m2 L (vs ++ [x]) (fun k => if k = x then e else g k) := by
  obtain ⟨es, ck, hb⟩ := h.map.blk
  have hne : ∀ k cs t fr, wr.heap[k]? = some (.cells cs t fr) → ¬ k = m2 := fun k cs t fr h1 e => by rw [e, hb] at h1; simp at h1
  rw [if_neg hn, Option.isSome_none, if_neg (by simp)] at hm
  refine ⟨?_, fun a ha hv => ?_, h.bel.trans (hk.below (by omega) (fun k e => by omega))⟩
  · rw [List.length_append]
    refine hm.ext (fun k _ => ?_)
    by_cases e1 : k = x
    · rw [e1, setV_same, if_pos (by simp), if_pos rfl]
    · rw [setV_other _ _ e1]
      simp only [List.mem_append, List.mem_singleton, e1, or_false, if_false]
  · by_cases e1 : a.k = x
    · subst e1
      obtain rfl : a = r := Option.some.inj ((fndK_is ho ha).symm.trans hr)
      rw [if_pos rfl]
      exact ⟨he, row_kept h1 hk (fun k cs h1 => hne k cs _ _ h1), row_kept h2 hk (fun k cs h1 => hne k cs _ _ h1)⟩
    · rw [if_neg e1]
      have hv2 : a.k ∈ vs := by
        rcases List.mem_append.1 hv with hv | hv
        · exact hv
        · simp at hv; exact absurd hv e1
      exact ⟨(h.ent a ha hv2).1, row_kept (h.ent a ha hv2).2.1 hk (fun k cs h1 => hne k cs _ _ h1), row_kept (h.ent a ha hv2).2.2 hk (fun k cs h1 => hne k cs _ _ h1)⟩
theorem put_fnd (L : List Rec) (g : Ky → Ent) (k : Ky) : fndK (L.map fun r => putX (g r.k) r) k = (fndK L k).map fun r => putX (g r.k) r := by
  unfold fndK
  rw [List.find?_map]
  rfl
theorem put_fndN (L : List Rec) (g : Ky → Ent) (k : Int) : fndN (L.map fun r => putX (g r.k) r) k = (fndN L k).map fun r => putX (g r.k) r := by
  unfold fndN
  rw [List.find?_map]
  rfl
theorem copy_close {B B2 m2 o nm km : Nat} {w v : World} {next room peak : Int} {L : List Rec} {vs : List Ky} {g : Ky → Ent} (hor : Ord L next) (hn0 : 0 ≤ next) (hnle : next ≤ 100000) (hle : (L.length : Int) ≤ next) (hc : CpS B w v m2 L vs g) (hnd : vs.Nodup) (hvk : ∀ x ∈ vs, kyOk x) (hd : ∀ x, kyOk x → (((fun k => (fndK L k).map fun r => entv r.x) x).isSome = true ↔ x ∈ vs))
    (hl : LnGot B2 v o nm km next L) (hB : B ≤ B2) (hm2 : B ≤ m2) (hm3 : m2 < B2) :
    ∃ L', L'.map plR = L.map plR ∧ @MeIs noWatch B (v.alloc (.cells #[.pointer (some ⟨o, 0, none⟩), .map (some nm), .map (some km), .int .i64 next, .int .i64 room, .int .i64 peak, .map (some m2)] 74 (0, 0))) v.heap.size o nm km m2 next room peak L' ∧
      Below B w (v.alloc (.cells #[.pointer (some ⟨o, 0, none⟩), .map (some nm), .map (some km), .int .i64 next, .int .i64 room, .int .i64 peak, .map (some m2)] 74 (0, 0))) := by
  have hkeys : vs.Perm (L.map (·.k)) := by
    rw [List.perm_ext_iff_of_nodup hnd hor.once]
    intro x
    constructor
    · intro hx
      have := (hd x (hvk x hx)).2 hx
      rw [Option.isSome_map] at this
      exact (fndK_mem hor.once x).1 this
    · intro hx
      obtain ⟨r, hr, rfl⟩ := List.mem_map.1 hx
      refine (hd _ (hor.wf r hr)).1 ?_
      rw [Option.isSome_map]
      exact (fndK_mem hor.once _).2 hx
  have hin : ∀ r ∈ L, r.k ∈ vs := fun r hr => hkeys.mem_iff.2 (List.mem_map.2 ⟨r, hr, rfl⟩)
  have hlen : vs.length = L.length := by rw [hkeys.length_eq, List.length_map]
  have hen : (L.map fun r => putX (g r.k) r).map enR = L.map enR := by rw [List.map_map]; rfl
  have hkk : (L.map fun r => putX (g r.k) r).map (·.k) = L.map (·.k) := by rw [List.map_map]; rfl
  obtain ⟨hb1, hx1⟩ := one_new v (.cells #[.pointer (some ⟨o, 0, none⟩), .map (some nm), .map (some km), .int .i64 next, .int .i64 room, .int .i64 peak, .map (some m2)] 74 (0, 0))
  have hon := hl.on
  have hnk := hl.nk
  have hbo := hl.bo
  have hkl := hl.keys.lt
  have hvB : B ≤ v.heap.size := by omega
  have hor' : Ord (L.map fun r => putX (g r.k) r) next := by
    refine ⟨by rw [hkk]; exact hor.once, ?_, fun r hr => ?_, fun r hr => ?_⟩
    · rw [List.pairwise_map]; exact hor.rise
    · obtain ⟨a, ha, rfl⟩ := List.mem_map.1 hr; exact hor.lt a ha
    · obtain ⟨a, ha, rfl⟩ := List.mem_map.1 hr; exact hor.wf a ha
  refine ⟨L.map fun r => putX (g r.k) r, ?_, @MeIs.mk noWatch _ _ _ _ _ _ _ _ _ _ _ (@LnIs.mk noWatch _ _ _ _ _ _ _ _ _ _ _ hx1 ?_ ?_ ?_ hor' hn0 hnle (by simpa using hle) (by omega) (by omega) (by omega) (by omega) (by omega) hvB (by omega) (by omega) hm2 (fun h => h) (fun h => h) (fun h => h) (fun h => h) (fun h => h) (Nat.zero_le _)) (@EnIs.mk noWatch _ _ _ ?_ ?_ ?_), hc.bel.trans (hb1.mono hvB)⟩
  · rw [List.map_map]
    apply List.map_congr_left
    intro r hr
    obtain ⟨⟨h1, h2, h3, h4, h5⟩, -⟩ := hc.ent r hr (hin r hr)
    simp only [Function.comp, plR, putX, h1, h2, h3, h4, h5]
  · rw [hen]
    exact Qu.widen (hl.qu m2 hm3) hb1 hB _ (fun k hk => .inl hk) (by show max 0 _ ≤ _; have := hb1.size; omega)
  · rw [List.length_map]
    refine (hl.names.later hb1).ext (fun k _ => ?_)
    rw [put_fnd, Option.map_map]
    rfl
  · rw [List.length_map]
    refine (hl.keys.later hb1).ext (fun k _ => ?_)
    rw [put_fndN, Option.map_map]
    rfl
  · rw [List.length_map, ← hlen]
    refine (hc.map.later hb1).ext (fun k hk => ?_)
    rw [put_fnd, Option.map_map]
    by_cases hv : k ∈ vs
    · rw [if_pos hv]
      have := (hd k hk).2 hv
      rw [Option.isSome_map] at this
      obtain ⟨r, hr⟩ := Option.isSome_iff_exists.1 this
      rw [hr]
      obtain ⟨-, rfl⟩ := fndK_some hr
      rfl
    · rw [if_neg hv]
      cases hf : fndK L k with
      | none => rfl
      | some r => exact absurd ((hd k hk).1 (by rw [Option.isSome_map, hf]; rfl)) hv
  · intro a ha
    obtain ⟨r, hr, rfl⟩ := List.mem_map.1 ha
    exact ⟨ownsRow_base (row_later (hc.ent r hr (hin r hr)).2.1 hb1) (Nat.zero_le _), fun _ _ h => h⟩
  · intro a ha
    obtain ⟨r, hr, rfl⟩ := List.mem_map.1 ha
    exact ⟨ownsRow_base (row_later (hc.ent r hr (hin r hr)).2.2 hb1) (Nat.zero_le _), fun _ _ h => h⟩
end Go.Proofs.YtpchjpmkkiopiaaGreat
namespace Go.Proofs.YtpchjpmkkiopiaaGreat
open Go.RowKit Go.Lib Go.Maps

theorem range_sorted {w : World} {m r s cnt : Nat} {f : Ky → Option Value} {vs : List Ky} (h : RangeV kyK w m r s f vs cnt) : vs.Nodup ∧ ∀ x ∈ vs, kyOk x := by
  obtain ⟨D, left, h1, h2, h3, h4, h5, h6⟩ := h
  exact ⟨h4, fun x hx => (h5 x hx).1⟩
theorem range_later {w w' : World} {m r s cnt : Nat} {f : Ky → Option Value} {vs : List Ky} (h : RangeV kyK w m r s f vs cnt) (hb : Below w.heap.size w w') : RangeV kyK w' m r s f vs cnt :=
  h.keeps (S := fun _ => False) (Keeps.ofNew hb _) (fun h => h) (fun h => h)
set_option maxRecDepth 100000 in
set_option maxHeartbeats 8000000 in
theorem mCopy_any [Watch] {base : Nat} {p q nm km em : Nat} {next room peak : Int} {L : List Rec} (w : World) (h : MeIs base w p q nm km em next room peak L) (hsz : ∀ r ∈ L, r.x.tree.length ≤ 1000000 ∧ r.x.tou.length ≤ 1000000) :
    Calls Tryz.prog 21 #[.pointer (some ⟨p, 0, none⟩)] w fun e w' => ∃ p' q' nm' km' em' L', e = .returned (.pointer (some ⟨p', 0, none⟩)) ∧ L'.map plR = L.map plR ∧ @MeIs noWatch w.heap.size w' p' q' nm' km' em' next room peak L' ∧ Below w.heap.size w w' := by
  have H := Lib.hid h
  have HSz := Lib.hid hsz
  have hmm := @run_makeMap Tryz.prog
  clear h hsz
  go_enter Tryz.func21, Tryz.ntmps21
  go_wp2_with fail
  refine (H.out.ln.made w).mono ?_
  rintro e w1 ⟨rfl, rfl⟩
  go_upto_region 4 with (fail)
  obtain ⟨m2, hm2⟩ : ∃ m, m = w.heap.size := ⟨_, rfl⟩
  have hn1 := one_new w (.map #[] 0)
  have h0 : CpS w.heap.size w (w.alloc (.map #[] 0)) w.heap.size L [] (fun _ => ⟨false, 0, 0, [], [], .slice none 0 0, .slice none 0 0⟩) := ⟨(MapV.made kyK w).ext (fun _ _ => rfl), fun r hr hv => by simp at hv, hn1.1⟩
  refine gen_world (S := fun u => Below w.heap.size w u ∧ CpS w.heap.size w u w.heap.size L [] (fun _ => ⟨false, 0, 0, [], [], .slice none 0 0, .slice none 0 0⟩)) ⟨hn1.1, h0⟩ (fun u hu => ?_)
  obtain ⟨hb, hc0⟩ := hu
  have HM2 := Lib.hid hm2
  rw [← hm2] at hc0 ⊢
  have Hu := Lib.hid (H.out.later hb)
  have HB := Lib.hid hb
  have HC0 := Lib.hid hc0
  clear hm2 hn1 h0 hb hc0
  have hmap := Hu.out.en.map
  obtain ⟨⟨-, -, -, -, -, -, c6⟩, -⟩ := seven_box Hu.out.ln.blk
  go_wp2_with (at_range; refine wpList_range_V rfl _ _ rfl Tryz.underlying72 rfl hmap ?_; intro w0 hrg0 hg0)
  have HR0 := Lib.hid hrg0
  have HC1 := Lib.hid (show CpS m2 w w0 m2 L [] (fun _ => ⟨false, 0, 0, [], [], .slice none 0 0, .slice none 0 0⟩) from by
    have hk : Keeps (fun _ => False) u w0 := (keeps_grown hg0).mono (fun _ _ h => by simp at h)
    have := HC0.out.later hk.new (by rw [HM2.out]; exact HB.out.size)
    exact this)
  obtain ⟨ri, hri⟩ : ∃ r, r = u.heap.size := ⟨_, rfl⟩
  have HRi := Lib.hid (show m2 < ri from by rw [hri]; exact HC0.out.map.lt)
  rw [← hri] at HR0 ⊢
  clear hrg0 hg0 hmap c6 HC0 hri
  go_frame
  go_loopw [4] (fun _ wr => ∃ (cnt : Nat) (vs : List Ky) (g : Ky → Ent), vs.length + cnt ≤ L.length ∧ Hid (RangeV kyK wr em ri L.length (fun k => (fndK L k).map fun r => entv r.x) vs cnt ∧ CpS m2 w wr m2 L vs g)) (fun _ wr => wr.rangeLeft em ri)
  case atStart => exact ⟨_, [], _, by simp, Lib.hid ⟨HR0.out, HC1.out⟩⟩
  case round =>
    obtain ⟨cnt, vs, g, hvl, HR⟩ := hrel
    have HVl := Lib.hid hvl
    clear hvl
    have HBe := Lib.hid (show Below w.heap.size w wr from by have := HR.out.2.bel; rw [HM2.out] at this; exact this)
    have hrg := HR.out.1
    go_wp2_with (at_next; refine wpList_next_V rfl _ rfl rfl hrg ?_ ?_)
    · intro hd
      have hd2 : ∀ x, kyOk x → (((fun k => (fndK L k).map fun r => entv r.x) x).isSome = true ↔ x ∈ vs) := by
        intro x hx
        have := hd x hx
        simpa using this
      have HD := Lib.hid hd2
      obtain ⟨hnd, hvk⟩ := range_sorted hrg
      have HNd := Lib.hid hnd
      have HVk := Lib.hid hvk
      clear hd hd2 hnd hvk hrg
      go_upto_region 8 with (fail)
      have hsw := HBe.out.size
      have HSw := Lib.hid hsw
      clear hsw
      refine wp_region_held_drew (S := fun z => Below w.heap.size w z) (by kernel_rfl) HBe.out.drew (fun hS => ?_)
      refine wpAnyH_take (i := 0) (oi := ⟨_, _, _, _, _, _⟩) (v := ?v4) rfl (by kernel_rfl) (by kernel_rfl) (by kernel_rfl) (fun _ _ _ h => h) ?y4 hS ?_
      case y4 => first | (refine Or.inr ⟨by rfl, ?_⟩; with_reducible rfl) | (refine Or.inl ⟨by rfl, ?_⟩; intro wS hSw; obtain ⟨⟨-, -, -, -, a4, a5, -⟩, -⟩ := seven_box (H.out.later hSw).ln.blk; go_simp; try with_reducible rfl)
      simp only [Act.put, List.setIfInBounds_toArray, List.set_cons_zero, List.set_cons_succ]
      refine wpAnyH_take (i := 1) (oi := ⟨_, _, _, _, _, _⟩) (v := ?v5) rfl (by kernel_rfl) (by kernel_rfl) (by kernel_rfl) (fun _ _ _ h => h) ?y5 hS ?_
      case y5 => first | (refine Or.inr ⟨by rfl, ?_⟩; with_reducible rfl) | (refine Or.inl ⟨by rfl, ?_⟩; intro wS hSw; obtain ⟨⟨-, -, -, -, a4, a5, -⟩, -⟩ := seven_box (H.out.later hSw).ln.blk; go_simp; try with_reducible rfl)
      simp only [Act.put, List.setIfInBounds_toArray, List.set_cons_zero, List.set_cons_succ]
      refine wpAnyH_take (i := 2) (oi := ⟨_, _, _, _, _, _⟩) (v := ?v6) rfl (by kernel_rfl) (by kernel_rfl) (by kernel_rfl) (fun _ _ _ h => h) ?y6 hS ?_
      case y6 => first | (refine Or.inr ⟨by rfl, ?_⟩; with_reducible rfl) | (refine Or.inl ⟨by rfl, ?_⟩; intro wS hSw; obtain ⟨⟨-, -, -, -, a4, a5, -⟩, -⟩ := seven_box (H.out.later hSw).ln.blk; go_simp; try with_reducible rfl)
      simp only [Act.put, List.setIfInBounds_toArray, List.set_cons_zero, List.set_cons_succ]
      refine wpAnyH_take (i := 4) (oi := ⟨_, _, _, _, _, _⟩) (v := ?v7) rfl (by kernel_rfl) (by kernel_rfl) (by kernel_rfl) (fun _ _ _ h => h) ?y7 hS ?_
      case y7 => first | (refine Or.inr ⟨by rfl, ?_⟩; with_reducible rfl) | (refine Or.inl ⟨by rfl, ?_⟩; intro wS hSw; obtain ⟨⟨-, -, -, -, a4, a5, -⟩, -⟩ := seven_box (H.out.later hSw).ln.blk; go_simp; try with_reducible rfl)
      simp only [Act.put, List.setIfInBounds_toArray, List.set_cons_zero, List.set_cons_succ]
      refine wpAnyH_take (i := 5) (oi := ⟨_, _, _, _, _, _⟩) (v := ?v8) rfl (by kernel_rfl) (by kernel_rfl) (by kernel_rfl) (fun _ _ _ h => h) ?y8 hS ?_
      case y8 => first | (refine Or.inr ⟨by rfl, ?_⟩; with_reducible rfl) | (refine Or.inl ⟨by rfl, ?_⟩; intro wS hSw; obtain ⟨⟨-, -, -, -, a4, a5, -⟩, -⟩ := seven_box (H.out.later hSw).ln.blk; go_simp; try with_reducible rfl)
      simp only [Act.put, List.setIfInBounds_toArray, List.set_cons_zero, List.set_cons_succ]
      refine wpAnyH_take (i := 6) (oi := ⟨_, _, _, _, _, _⟩) (v := ?v9) rfl (by kernel_rfl) (by kernel_rfl) (by kernel_rfl) (fun _ _ _ h => h) ?y9 hS ?_
      case y9 => first | (refine Or.inr ⟨by rfl, ?_⟩; with_reducible rfl) | (refine Or.inl ⟨by rfl, ?_⟩; intro wS hSw; obtain ⟨⟨-, -, -, -, a4, a5, -⟩, -⟩ := seven_box (H.out.later hSw).ln.blk; go_simp; try with_reducible rfl)
      simp only [Act.put, List.setIfInBounds_toArray, List.set_cons_zero, List.set_cons_succ]
      refine wpAnyH_take (i := 7) (oi := ⟨_, _, _, _, _, _⟩) (v := ?v10) rfl (by kernel_rfl) (by kernel_rfl) (by kernel_rfl) (fun _ _ _ h => h) ?y10 hS ?_
      case y10 => first | (refine Or.inr ⟨by rfl, ?_⟩; with_reducible rfl) | (refine Or.inl ⟨by rfl, ?_⟩; intro wS hSw; obtain ⟨⟨-, -, -, -, a4, a5, -⟩, -⟩ := seven_box (H.out.later hSw).ln.blk; go_simp; try with_reducible rfl)
      simp only [Act.put, List.setIfInBounds_toArray, List.set_cons_zero, List.set_cons_succ]
      refine wpAnyH_take (i := 8) (oi := ⟨_, _, _, _, _, _⟩) (v := ?v11) rfl (by kernel_rfl) (by kernel_rfl) (by kernel_rfl) (fun _ _ _ h => h) ?y11 hS ?_
      case y11 => first | (refine Or.inr ⟨by rfl, ?_⟩; with_reducible rfl) | (refine Or.inl ⟨by rfl, ?_⟩; intro wS hSw; obtain ⟨⟨-, -, -, -, a4, a5, -⟩, -⟩ := seven_box (H.out.later hSw).ln.blk; go_simp; try with_reducible rfl)
      simp only [Act.put, List.setIfInBounds_toArray, List.set_cons_zero, List.set_cons_succ]
      refine wpAnyH_take (i := 9) (oi := ⟨_, _, _, _, _, _⟩) (v := ?v12) rfl (by kernel_rfl) (by kernel_rfl) (by kernel_rfl) (fun _ _ _ h => h) ?y12 hS ?_
      case y12 => first | (refine Or.inr ⟨by rfl, ?_⟩; with_reducible rfl) | (refine Or.inl ⟨by rfl, ?_⟩; intro wS hSw; obtain ⟨⟨-, -, -, -, a4, a5, -⟩, -⟩ := seven_box (H.out.later hSw).ln.blk; go_simp; try with_reducible rfl)
      simp only [Act.put, List.setIfInBounds_toArray, List.set_cons_zero, List.set_cons_succ]
      refine wpAnyH_take (i := 10) (oi := ⟨_, _, _, _, _, _⟩) (v := ?v13) rfl (by kernel_rfl) (by kernel_rfl) (by kernel_rfl) (fun _ _ _ h => h) ?y13 hS ?_
      case y13 => first | (refine Or.inr ⟨by rfl, ?_⟩; with_reducible rfl) | (refine Or.inl ⟨by rfl, ?_⟩; intro wS hSw; obtain ⟨⟨-, -, -, -, a4, a5, -⟩, -⟩ := seven_box (H.out.later hSw).ln.blk; go_simp; try with_reducible rfl)
      simp only [Act.put, List.setIfInBounds_toArray, List.set_cons_zero, List.set_cons_succ]
      refine wpAnyH_take (i := 11) (oi := ⟨_, _, _, _, _, _⟩) (v := ?v14) rfl (by kernel_rfl) (by kernel_rfl) (by kernel_rfl) (fun _ _ _ h => h) ?y14 hS ?_
      case y14 => first | (refine Or.inr ⟨by rfl, ?_⟩; with_reducible rfl) | (refine Or.inl ⟨by rfl, ?_⟩; intro wS hSw; obtain ⟨⟨-, -, -, -, a4, a5, -⟩, -⟩ := seven_box (H.out.later hSw).ln.blk; go_simp; try with_reducible rfl)
      simp only [Act.put, List.setIfInBounds_toArray, List.set_cons_zero, List.set_cons_succ]
      refine wpAnyH_take (i := 12) (oi := ⟨_, _, _, _, _, _⟩) (v := ?v15) rfl (by kernel_rfl) (by kernel_rfl) (by kernel_rfl) (fun _ _ _ h => h) ?y15 hS ?_
      case y15 => first | (refine Or.inr ⟨by rfl, ?_⟩; with_reducible rfl) | (refine Or.inl ⟨by rfl, ?_⟩; intro wS hSw; obtain ⟨⟨-, -, -, -, a4, a5, -⟩, -⟩ := seven_box (H.out.later hSw).ln.blk; go_simp; try with_reducible rfl)
      simp only [Act.put, List.setIfInBounds_toArray, List.set_cons_zero, List.set_cons_succ]
      refine wpAnyH_ready (rs := [3]) (by kernel_rfl) (by simp) ?_
      refine AllReadyH.cons (o := ⟨_, _, _, _, _, _⟩) rfl (fun K hK => ?_) AllReadyH.nil
      go_simp
      refine (lnCopied_any wr.drew (H.out.later hS).ln).mono ?_
      rintro e v1 ⟨o, nm', km', rfl, hl, hb⟩
      go_wp2_with fail
      have hS1 := hS.trans (hb.mono hS.size)
      refine hK.out _ _ hS1 (fun hSd => ?_)
      clear hSd hK K
      try simp only [Act.put, List.setIfInBounds_toArray, List.set_cons_zero, List.set_cons_succ]
      have hdr := (Below.refl wr.heap.size wr).drew
      have HC1 := Lib.hid (copy_close (room := room) (peak := peak) H.out.ln.ord H.out.ln.n0 H.out.ln.nle H.out.ln.le (HR.out.2.later (hdr.trans hb) (by rw [HM2.out]; exact HSw.out)) HNd.out HVk.out HD.out hl (show m2 ≤ wr.drew.heap.size from by rw [HM2.out]; exact HSw.out) (Nat.le_refl _) (show m2 < wr.drew.heap.size from HR.out.2.map.lt))
      clear hdr hl hb hS
      refine wpAnyH_take (i := 13) (oi := ⟨_, _, _, _, _, _⟩) (v := ?v16) rfl (by kernel_rfl) (by kernel_rfl) (by kernel_rfl) (fun _ _ _ h => h) ?y16 hS1 ?_
      case y16 => first | (refine Or.inr ⟨by rfl, ?_⟩; with_reducible rfl) | (refine Or.inl ⟨by rfl, ?_⟩; intro wS hSw; go_simp; try with_reducible rfl)
      simp only [Act.put, List.setIfInBounds_toArray, List.set_cons_zero, List.set_cons_succ]
      refine wpAnyH_ready (rs := [14]) (by kernel_rfl) (by simp) ?_
      refine AllReadyH.cons (o := ⟨_, _, _, _, _, _⟩) rfl (fun K hK => ?_) AllReadyH.nil
      go_simp
      refine hK.out _ _ (hS1.alloc hS1.size _) (fun hS2 => ?_)
      clear hK K
      try simp only [Act.put, List.setIfInBounds_toArray, List.set_cons_zero, List.set_cons_succ]
      refine wpAnyH_take (i := 15) (oi := ⟨_, _, _, _, _, _⟩) (v := ?v17) rfl (by kernel_rfl) (by kernel_rfl) (by kernel_rfl) (fun _ _ _ h => h) ?y17 hS2 ?_
      case y17 => first | (refine Or.inr ⟨by rfl, ?_⟩; with_reducible rfl) | (refine Or.inl ⟨by rfl, ?_⟩; intro wS hSw; go_simp; try with_reducible rfl)
      simp only [Act.put, List.setIfInBounds_toArray, List.set_cons_zero, List.set_cons_succ]
      refine wpAnyH_done (by kernel_rfl) ?_ _
      clear hS1 hS2
      go_wp2
      go_ret
      obtain ⟨L', h1, h2, h3⟩ := HC1.out
      have e := HM2.out
      clear HM2
      subst e
      exact ⟨_, _, _, _, _, L', rfl, h1, h2, h3⟩
    · intro x v w2 cnt2 hx r hfr hv hnin hrg2 hlt hg2 hs2 hen
      rw [show kyK.val x = .agg #[.int .i64 x.rule, .int .i64 x.level, .int .i64 x.place] from rfl]
      replace hen : (Instr.entry (.pointer (some ⟨ri, 0, none⟩))).run Tryz.prog w2 = .ok (.tuple #[.agg #[.int .i64 x.rule, .int .i64 x.level, .int .i64 x.place], v]) w2 := hen
      have hrL := (fndK_some hfr).1
      have HFr := Lib.hid hfr
      have HNin := Lib.hid hnin
      have HLt := Lib.hid hlt
      have HLe := Lib.hid hrg.left_eq
      have hc2 := HR.out.2.iter hg2 (by obtain ⟨a, b, c, d⟩ := hrg.iter; exact ⟨_, a, b, c, d⟩) (by have := HRi.out; omega)
      have HR2 := Lib.hid (And.intro hrg2 hc2)
      have HBe2 := Lib.hid (show Below w.heap.size w w2 from by have := hc2.bel; rw [HM2.out] at this; exact this)
      have hz := HSz.out r hrL
      have HZ1 := Lib.hid hz.1
      have HZ2 := Lib.hid hz.2
      have hto := (H.out.en.tws r hrL).1
      have hko := (H.out.en.ivs r hrL).1
      have HTo := Lib.hid hto.got
      have HKo := Lib.hid hko.got
      obtain ⟨at1, ct, hat⟩ := own_val hto
      obtain ⟨ak1, ck, hak⟩ := own_val hko
      obtain ⟨rk, rn, ⟨xis, xen, xfar, xtree, xtou, xtv, xkv⟩⟩ := r
      simp only at hat hak HTo HKo HZ1 HZ2 hv
      subst hat hak hv
      clear hrL hfr hnin hlt hrg hrg2 hg2 hs2 hc2 hz hto hko
      unfold entv at hen
      simp only at hen
      go_upto_region 7 with (fail)
      have hn2 := two_new w2 (.cells #[.int .i64 x.rule, .int .i64 x.level, .int .i64 x.place] 24 (0, 0)) (.cells #[.bool xis, .int .i64 xen, .int .i64 xfar, .slice at1 xtree.length ct, .slice ak1 xtou.length ck] 30 (0, 0))
      have HN2 := Lib.hid hn2
      refine gen_world (S := fun v => Below w2.heap.size w2 v ∧ v.heap[w2.heap.size]? = some (.cells #[.int .i64 x.rule, .int .i64 x.level, .int .i64 x.place] 24 (0, 0)) ∧ v.heap[w2.heap.size + 1]? = some (.cells #[.bool xis, .int .i64 xen, .int .i64 xfar, .slice at1 xtree.length ct, .slice ak1 xtou.length ck] 30 (0, 0))) hn2 (fun v hv => ?_)
      obtain ⟨hbv, hxv, hzv⟩ := hv
      obtain ⟨y, hy⟩ : ∃ y, y = w2.heap.size := ⟨_, rfl⟩
      rw [← hy] at hxv hzv ⊢
      have HXv := Lib.hid hxv
      have HZv := Lib.hid hzv
      have HRv := Lib.hid (And.intro (range_later HR2.out.1 hbv) (HR2.out.2.later hbv (by rw [HM2.out]; exact HBe2.out.size)))
      have HBv := Lib.hid (HBe2.out.trans (hbv.mono HBe2.out.size))
      clear hn2 hbv hxv hzv hy hen HR2 HBe2 HN2 HR
      refine wp_region_held_drew (S := fun z => z.heap[y]? = some (.cells #[.int .i64 x.rule, .int .i64 x.level, .int .i64 x.place] 24 (0, 0)) ∧ z.heap[y + 1]? = some (.cells #[.bool xis, .int .i64 xen, .int .i64 xfar, .slice at1 xtree.length ct, .slice ak1 xtou.length ck] 30 (0, 0))) (by kernel_rfl) ⟨HXv.out, HZv.out⟩ (fun hS => ?_)
      refine wpAnyH_take (i := 0) (oi := ⟨_, _, _, _, _, _⟩) (v := ?v1) rfl (by kernel_rfl) (by kernel_rfl) (by kernel_rfl) (fun _ _ _ h => h) ?y1 hS ?_
      case y1 => first | (refine Or.inr ⟨by rfl, ?_⟩; with_reducible rfl) | (refine Or.inl ⟨by rfl, ?_⟩; intro wS hSw; obtain ⟨b0, b1, b2, -⟩ := three_box hSw.1; obtain ⟨⟨d0, d1, d2, d3, d4⟩, -⟩ := five_box hSw.2; go_simp; try with_reducible rfl)
      simp only [Act.put, List.setIfInBounds_toArray, List.set_cons_zero, List.set_cons_succ]
      refine wpAnyH_take (i := 1) (oi := ⟨_, _, _, _, _, _⟩) (v := ?v2) rfl (by kernel_rfl) (by kernel_rfl) (by kernel_rfl) (fun _ _ _ h => h) ?y2 hS ?_
      case y2 => first | (refine Or.inr ⟨by rfl, ?_⟩; with_reducible rfl) | (refine Or.inl ⟨by rfl, ?_⟩; intro wS hSw; obtain ⟨b0, b1, b2, -⟩ := three_box hSw.1; obtain ⟨⟨d0, d1, d2, d3, d4⟩, -⟩ := five_box hSw.2; go_simp; try with_reducible rfl)
      simp only [Act.put, List.setIfInBounds_toArray, List.set_cons_zero, List.set_cons_succ]
      refine wpAnyH_take (i := 2) (oi := ⟨_, _, _, _, _, _⟩) (v := ?v3) rfl (by kernel_rfl) (by kernel_rfl) (by kernel_rfl) (fun _ _ _ h => h) ?y3 hS ?_
      case y3 => first | (refine Or.inr ⟨by rfl, ?_⟩; with_reducible rfl) | (refine Or.inl ⟨by rfl, ?_⟩; intro wS hSw; obtain ⟨b0, b1, b2, -⟩ := three_box hSw.1; obtain ⟨⟨d0, d1, d2, d3, d4⟩, -⟩ := five_box hSw.2; go_simp; try with_reducible rfl)
      simp only [Act.put, List.setIfInBounds_toArray, List.set_cons_zero, List.set_cons_succ]
      refine wpAnyH_ready (rs := [3]) (by kernel_rfl) (by simp) ?_
      refine AllReadyH.cons (o := ⟨_, _, _, _, _, _⟩) rfl (fun K hK => ?_) AllReadyH.nil
      go_simp
      have hdr := (Below.refl v.heap.size v).drew
      refine (copied_any ⟨xis, xen, xfar, xtree, xtou, .slice at1 xtree.length ct, .slice ak1 xtou.length ck⟩ v.drew (HTo.out.later (HBv.out.trans (hdr.mono HBv.out.size))) (HKo.out.later (HBv.out.trans (hdr.mono HBv.out.size))) HZ1.out HZ2.out).mono ?_
      rintro e v2 ⟨tv, kv, rfl, ho1, ho2, hb⟩
      have hb : Below v.heap.size v v2 := hdr.trans hb
      simp only at ho1 ho2
      obtain ⟨a1, c1, rfl⟩ := own_val ho1
      obtain ⟨a2, c2, rfl⟩ := own_val ho2
      have hmv : m2 ≤ v.heap.size := by rw [HM2.out]; exact HBv.out.size
      have hc2 := HRv.out.2.later hb hmv
      have hx2 := (hb.block _ (lt_of_block HXv.out)).trans HXv.out
      have hz2 := (hb.block _ (lt_of_block HZv.out)).trans HZv.out
      have hr2 := range_later HRv.out.1 hb
      obtain ⟨v3, hrun, hm3, hk3⟩ := hc2.map.put Tryz.underlying72 (by have := H.out.ln.le; have := H.out.ln.nle; have := HVl.out; omega) hx (.agg #[.bool xis, .int .i64 xen, .int .i64 xfar, .slice a1 xtree.length c1, .slice a2 xtou.length c2])
      have hc3 := hc2.next H.out.ln.ord.once HFr.out HNin.out (e := ⟨xis, xen, xfar, xtree, xtou, .slice a1 xtree.length c1, .slice a2 xtou.length c2⟩) ⟨rfl, rfl, rfl, rfl, rfl⟩ (ownsRow_base ho1 hmv) (ownsRow_base ho2 hmv) hm3 hk3 (Nat.le_refl _) hc2.map.lt
      have hem : em ≠ m2 := by have := H.out.en.map.lt; have := HM2.out; omega
      have hr3 := hr2.keeps hk3 hem (by have := HRi.out; omega)
      have HF := Lib.hid (And.intro hr3 hc3)
      have HRun := Lib.hid hrun
      have hx3 := hk3.obj hx2 (fun e => by obtain ⟨es, ck, h1⟩ := hc2.map.blk; rw [e, h1] at hx2; simp at hx2)
      have hz3 := hk3.obj hz2 (fun e => by obtain ⟨es, ck, h1⟩ := hc2.map.blk; rw [e, h1] at hz2; simp at hz2)
      have HX3 := Lib.hid (And.intro hx3 hz3)
      have HX2 := Lib.hid (And.intro hx2 hz2)
      clear hdr hb ho1 ho2 hmv hc2 hx2 hz2 hr2 hrun hm3 hk3 hc3 hem hr3 hx3 hz3
      go_wp2_with fail
      refine hK.out _ _ HX2.out (fun hSd => ?_)
      clear hSd hK K
      try simp only [Act.put, List.setIfInBounds_toArray, List.set_cons_zero, List.set_cons_succ]
      refine wpAnyH_ready (rs := [4]) (by kernel_rfl) (by simp) ?_
      refine AllReadyH.cons (o := ⟨_, _, _, _, _, _⟩) rfl (fun K hK => ?_) AllReadyH.nil
      have hrun : (Instr.mapUpdate 72 (.map (some m2)) (.agg #[.int .i64 x.rule, .int .i64 x.level, .int .i64 x.place]) (.agg #[.bool xis, .int .i64 xen, .int .i64 xfar, .slice a1 xtree.length c1, .slice a2 xtou.length c2])).run Tryz.prog v2 = .ok () v3 := HRun.out
      go_simp
      refine hK.out _ _ HX3.out (fun hSd => ?_)
      clear hSd hK K hrun
      try simp only [Act.put, List.setIfInBounds_toArray, List.set_cons_zero, List.set_cons_succ]
      refine wpAnyH_done (by kernel_rfl) ?_ _
      clear hS
      go_roundw
      case rel => exact ⟨_, _, _, _, _, _, _, _, _, _, _, ⟨cnt2, vs ++ [x], _, by have := HVl.out; have := HLt.out; rw [List.length_append, List.length_singleton]; omega, HF⟩, rfl⟩
      case measure => rw [HF.out.1.left_eq, HLe.out]; exact HLt.out
end Go.Proofs.YtpchjpmkkiopiaaGreat
