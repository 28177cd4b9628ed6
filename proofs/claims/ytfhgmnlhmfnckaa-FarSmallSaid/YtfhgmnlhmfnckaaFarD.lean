/-
  Package far: a record's methods: texts.
-/
import Derived.Test.YtfhgmnlhmfnckaaFarC
namespace Go.Proofs.Ytfhgmnlhmfnckaa
open Go.RowKit Go.Lib

/-- are some bytes at a place, one behind the other? -/
def textB (W : List UInt8) : List UInt8 → Int → Bool
  | [], _ => true
  | b :: r, place => thereB W (clOf [b]) place && textB W r (place + 1)
/-- what asking for them leaves. -/
def textP (W : List UInt8) (p : Part) : List UInt8 → Int → Part
  | [], _ => p
  | b :: r, place => if thereB W (clOf [b]) place then textP W p r (place + 1) else missP p place (clOf [b])
theorem text_stop (W : List UInt8) (p : Part) : ∀ (l : List UInt8) (place : Int) (k : Nat) (h : k < l.length), (∀ j (hj : j < k), thereB W (clOf [l[j]]) (place + j) = true) → thereB W (clOf [l[k]]) (place + k) = false →
    textB W l place = false ∧ textP W p l place = missP p (place + k) (clOf [l[k]])
  | [], _, _, h, _, _ => by simp at h
  | b :: r, place, 0, _, _, h2 => by
    simp only [List.getElem_cons_zero, Int.natCast_zero, Int.add_zero] at h2 ⊢
    simp only [textB, textP, h2]
    simp
  | b :: r, place, k + 1, h, h1, h2 => by
    have hb : thereB W (clOf [b]) place = true := by have := h1 0 (by omega); simpa using this
    have hk : k < r.length := by simpa using h
    have e : place + ((k + 1 : Nat) : Int) = place + 1 + (k : Int) := by omega
    rw [e] at h2 ⊢
    simp only [List.getElem_cons_succ] at h2 ⊢
    have ih := text_stop W p r (place + 1) k hk (fun j hj => by
      have := h1 (j + 1) (by omega)
      simp only [List.getElem_cons_succ] at this
      rw [show place + ((j + 1 : Nat) : Int) = place + 1 + (j : Int) by omega] at this
      exact this) h2
    simp only [textB, textP, hb, Bool.true_and, if_true]
    exact ih
theorem text_all (W : List UInt8) (p : Part) : ∀ (l : List UInt8) (place : Int), (∀ j (hj : j < l.length), thereB W (clOf [l[j]]) (place + j) = true) → textB W l place = true ∧ textP W p l place = p
  | [], _, _ => ⟨rfl, rfl⟩
  | b :: r, place, h1 => by
    have hb : thereB W (clOf [b]) place = true := by have := h1 0 (by simp); simpa using this
    have ih := text_all W p r (place + 1) (fun j hj => by
      have := h1 (j + 1) (by simpa using hj)
      simp only [List.getElem_cons_succ] at this
      rw [show place + ((j + 1 : Nat) : Int) = place + 1 + (j : Int) by omega] at this
      exact this)
    simp only [textB, textP, hb, Bool.true_and, if_true]
    exact ih

theorem bytes_one {w : World} {c : UInt8} {t : TypeId} : BytesAt (w.alloc (.cells #[.int .u8 (c.toNat : Int)] t (0, 0))) (.slice (some ⟨w.heap.size, 0, none⟩) 1 1) [c] := by
  refine ⟨_, w.heap.size, 0, 1, rfl, Nat.le_refl _, by unfold maxLen; omega, (fun h => by cases h), fun _ => rfl, fun k hk => ?_⟩
  have hk' : k = 0 := by simpa using hk
  subst hk'
  exact (block_cell' (heap_alloc_new w _) 0).1

set_option maxHeartbeats 400000 in
theorem far_Text_neg {H : Nat → Prop} {a : Nat} {init : List Part} {p : Part} {W : List UInt8} (w : World) (s : ByteArray) (place : Int) (h : Far H w a (init ++ [p]) W) (h0 : place < 0) :
    Calls Try.prog 16 #[.pointer (some ⟨a, 0, none⟩), .string s, .int .i64 place] w fun e w' => e = .returned (.bool false) ∧ w = w' := by
  obtain ⟨g, cap, wv, c0, c1, hW, hmade0, hlast0, hmiss0⟩ := h.miss place clNone
  have hmade := Lib.hid hmade0
  clear hmiss0 hlast0 hmade0 h hW c0 c1
  go_enter Try.func16, Try.ntmps16
  go_wp2_with (go_at_call 37; refine (hmade.out _ (Below.refl _ _)).mono ?_; rintro e w' ⟨rfl, rfl⟩)
  go_ret
  exact ⟨rfl, rfl⟩

set_option maxHeartbeats 1000000 in
theorem far_Text {H : Nat → Prop} {a : Nat} {init : List Part} {p : Part} {W : List UInt8} (w : World) (s : ByteArray) (place : Int) (h : Far H w a (init ++ [p]) W) (h0 : 0 ≤ place) (hp : place + s.size ≤ 9223372036854775807) :
    Calls Try.prog 16 #[.pointer (some ⟨a, 0, none⟩), .string s, .int .i64 place] w fun e w' => e = .returned (.bool (textB W s.data.toList place)) ∧ Far H w' a (init ++ [textP W p s.data.toList place]) W ∧ Keeps H w w' := by
  obtain ⟨g, cap, wv, c0, c1, hW, hmade0, hlast0, hmiss0⟩ := h.miss place clNone
  have hmade := Lib.hid hmade0
  have HF := Lib.hid h
  clear hmiss0 hlast0 hmade0 h hW c0 c1
  have hmf : ∀ (fn : Fn) (first cap : Array Value) (w : World), (Instr.makeFunc fn first cap).run Try.prog w = .ok (.func fn first cap) w := fun _ _ _ _ => rfl
  have h0' : ¬ place < 0 := by omega
  go_enter Try.func16, Try.ntmps16
  go_wp2_with (go_at_call 37; refine (hmade.out _ (Below.refl _ _)).mono ?_; rintro e w' ⟨rfl, rfl⟩)
  go_loopw [8, 20] (fun _ i wr => ∃ k : Nat, k ≤ s.size ∧ i = .int .i64 k ∧ (∀ j (hj : j < k) (hs : j < s.data.toList.length), thereB W (clOf [s.data.toList[j]]) (place + j) = true) ∧ Far H wr a (init ++ [p]) W ∧ Keeps H w wr) (fun _ i _ => s.size - (intOf i).toNat)
  case atStart => exact ⟨0, by omega, rfl, fun j hj => by omega, HF.out, Keeps.refl _ _⟩
  case round =>
    obtain ⟨k, hk, rfl, hall, hF, hK⟩ := hrel
    have HA := Lib.hid hall
    have HF1 := Lib.hid hF
    have HK := Lib.hid hK
    clear hall hF hK HF hmade
    by_cases hlt : k < s.size
    · have hlI : (k : Int) < s.size := by omega
      have hl : k < s.data.toList.length := by simpa using hlt
      have hpk : place + k ≤ 9223372036854775807 := by omega
      have hpk0 : 0 ≤ place + k := by omega
      have hS := Lib.hid (fun w1 hb1 => far_Set w1 (clOf [s[k]]) (place + k) (HF1.out.later (w' := w1) hb1))
      have hB1 := Lib.hid (fun C t => (Below.refl wr.heap.size wr).alloc (Nat.le_refl _) (.cells C t (0, 0)))
      go_wp2_with fail
      refine (class_Of _ [s[k]] _ bytes_one).mono ?_
      rintro e w1 ⟨rfl, hb1⟩
      have hb2 := Lib.hid ((hB1.out _ _).trans (hb1.mono (by simp)))
      clear hb1 hB1
      cases hth : thereB W (clOf [s[k]]) (place + k)
      · have HT := Lib.hid hth
        go_wp2_with fail
        refine (hS.out _ hb2.out).mono ?_
        rintro e w2 ⟨rfl, hF2, hK2⟩
        rw [hth]
        clear hth
        rw [askA_miss hpk0 HT.out] at hF2
        have HF2 := Lib.hid hF2
        clear hF2
        go_wp2
        go_ret
        obtain ⟨e1, e2⟩ := text_stop W p s.data.toList place k hl (fun j hj => HA.out j hj (by omega)) HT.out
        rw [e1, e2]
        exact ⟨rfl, HF2.out, (HK.out.trans (Keeps.ofNew hb2.out _)).trans hK2⟩
      · have HT := Lib.hid hth
        go_wp2_with fail
        refine (hS.out _ hb2.out).mono ?_
        rintro e w2 ⟨rfl, hF2, hK2⟩
        rw [hth]
        clear hth
        rw [askA_hit HT.out] at hF2
        have HF2 := Lib.hid hF2
        clear hF2
        go_wp2
        go_roundw
        case rel =>
          refine ⟨k + 1, by omega, by go_num, fun j hj hs => ?_, HF2.out, (HK.out.trans (Keeps.ofNew hb2.out _)).trans hK2⟩
          by_cases hjk : j = k
          · subst hjk; exact HT.out
          · exact HA.out j (by omega) hs
        case measure => simp [intOf]; omega
    · obtain rfl : k = s.size := by omega
      go_wp2
      go_ret
      obtain ⟨e1, e2⟩ := text_all W p s.data.toList place (fun j hj => HA.out j (by simpa using hj) hj)
      rw [e1, e2]
      exact ⟨rfl, HF1.out, HK.out⟩
end Go.Proofs.Ytfhgmnlhmfnckaa
