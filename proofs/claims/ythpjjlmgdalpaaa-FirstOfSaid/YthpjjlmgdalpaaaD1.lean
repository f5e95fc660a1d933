/- first.one, first.Of. -/
import Derived.Test.YthpjjlmgdalpaaaC5
import Derived.Laws.IdiomStrings
namespace Go.Proofs.Ythpjjlmgdalpaaa
open Go.RowKit

/-- A block of slices of words, each the owner's own, made behind the block. -/
def SS (W : World) (b : Nat) (L : List (List (List UInt8))) : Prop := ∃ vs : List Value, vs.length = L.length ∧ Blk W b 22 vs.toArray ∧ ∀ i (h : i < L.length) (h' : i < vs.length), Own W (b + 3) 9 vs[i] (wsv L[i])
section
variable {w W : World} {b : Nat} {L : List (List (List UInt8))}
theorem SS.lt (h : SS W b L) : b < W.heap.size := let ⟨_, _, h2, _⟩ := h; h2.lt
theorem SS.below (h : SS w b L) (hb : Below w.heap.size w W) : SS W b L := by
  have hl := h.lt
  obtain ⟨vs, h1, h2, h3⟩ := h
  exact ⟨vs, h1, h2.below hb hl, fun i hi hi' => (h3 i hi hi').below hb (Nat.le_refl _)⟩
theorem SS.heap (h : SS w b L) (hW : W.heap = w.heap) : SS W b L := by
  obtain ⟨vs, h1, h2, h3⟩ := h
  exact ⟨vs, h1, by unfold Blk; rw [hW]; exact h2, fun i hi hi' => (h3 i hi hi').heap hW⟩
theorem SS.at_ (h : SS W b L) (i : Nat) (hi : i < L.length) : ∃ v, W.cell? ⟨b, i, none⟩ = some v ∧ Own W (b + 3) 9 v (wsv L[i]) := by
  obtain ⟨vs, h1, h2, h3⟩ := h
  refine ⟨vs[i]'(by omega), ?_, h3 i hi (by omega)⟩
  rw [h2.cell i]
  simp [show i < vs.length by omega]
end

/-- A symbol's words. -/
def symW (L : List (List (List UInt8))) (s : Int) : Option (List (List UInt8)) := if s < 0 then (if -256 ≤ s then some [[UInt8.ofNat (-1 - s).toNat]] else none) else L[s.toNat]?
set_option maxRecDepth 8000 in
theorem one_any (b : Nat) (L : List (List (List UInt8))) (s : Int) (w : World) (h : SS w b L) (hL : L.length ≤ 1000000) (hs : -1000000 ≤ s ∧ s ≤ 1000000) :
    Calls Try.prog 75 #[.slice (some ⟨b, 0, none⟩) L.length L.length, .int .i64 s] w fun e w' => (∃ x, e = .returned (.tuple #[x, .bool (symW L s).isSome]) ∧ ∀ l, symW L s = some l → SV w' w'.heap.size x (wsv l)) ∧ Below w.heap.size w w' := by
  by_cases h0 : s < 0
  · have w1 : IntKind.i64.wrap (-1 - s) = -1 - s := IntWalk.i64_in _ (by omega)
    obtain ⟨c, hc⟩ : ∃ c : UInt8, c = UInt8.ofNat (-1 - s).toNat := ⟨_, rfl⟩
    have hc2 : (-1 - s) % 256 = (c.toNat : Int) := by
      rw [hc, UInt8.toNat_ofNat']; omega
    have hcv : ∀ W : World, W.cell? ⟨w.heap.size, 0, none⟩ = some (.int .u8 ((-1 - s) % 256)) → (convert 56 9 (.slice (some ⟨w.heap.size, 0, none⟩) 1 1)).run Try.prog W = .ok (.string ⟨#[c]⟩) W := by
      intro W hW
      have := run_convert_bytes_back (P := Try.prog) W 56 9 5 ⟨w.heap.size, 0, none⟩ 1 [c] Try.underlying56 Try.underlying5 Try.underlying9 (fun j hj => by
        have hj0 : j = 0 := by simpa using hj
        subst hj0
        rw [hc2] at hW
        simpa [Addr.add] using hW)
      simpa using this
    have hcv1 := hcv (w.alloc (.cells #[.int .u8 ((-1 - s) % 256)] 5)) ((Blk.new w 5 #[.int .u8 ((-1 - s) % 256)]).cell 0)
    have hd : decide (s < 0) = true := decide_eq_true h0
    have Hc := hide hc
    have Hb : Hid (Below w.heap.size w ((w.alloc (.cells #[.int .u8 ((-1 - s) % 256)] 5)).alloc (.cells #[.string ⟨#[c]⟩] 9))) := ((Below.refl _ _).alloc (Nat.le_refl _) _).alloc (by simp) _
    have Hsl := hide (SlAt.lit (w.alloc (.cells #[.int .u8 ((-1 - s) % 256)] 5)) 9 [.string ⟨#[c]⟩])
    clear hcv hc2 hc h
    go_enter Try.func75, Try.ntmps75
    go_wp2_with (go_at_call 78; refine (isterm_fn _ _).mono ?_; rintro e w' ⟨rfl, rfl⟩)
    all_goals first | (exfalso; omega) | skip
    go_ret2
    refine ⟨⟨.slice (some ⟨w.heap.size + 1, 0, none⟩) 1 1, ?_, fun l hl => ?_⟩, Hb.out⟩
    · congr 3
      simp only [symW, if_pos h0]
      by_cases h256 : -256 ≤ s
      · simp [h256]
      · simp [h256]
    · simp only [symW, if_pos h0] at hl
      split at hl
      · injection hl with hl
        subst hl
        refine ⟨_, 1, by rw [← Hc.out]; rfl, by simp, by omega, ?_, fun h => by cases h⟩
        have h1 := Hsl.out
        have e1 : (w.alloc (.cells #[.int .u8 ((-1 - s) % 256)] 5)).heap.size = w.heap.size + 1 := by simp
        rw [e1] at h1
        rw [← Hc.out]
        exact h1.more (by simp)
      · cases hl
  · obtain ⟨m, rfl⟩ := Int.eq_ofNat_of_zero_le (by omega : 0 ≤ s)
    have hd : decide ((m : Int) < 0) = false := decide_eq_false h0
    by_cases hm : m < L.length
    · obtain ⟨x, hx1, hx2⟩ := h.at_ m hm
      have hsy : symW L (m : Int) = some L[m] := by
        unfold symW; rw [if_neg (by omega), Int.toNat_natCast, List.getElem?_eq_getElem hm]
      have hS := hide (SV.of_own hx2)
      have Hsy := hide hsy
      clear hx2 hsy h
      go_enter Try.func75, Try.ntmps75
      go_wp2_with (go_at_call 78; refine (isterm_fn _ _).mono ?_; rintro e w' ⟨rfl, rfl⟩)
      all_goals first | (exfalso; omega) | skip
      go_ret2
      exact ⟨⟨x, by rw [Hsy.out]; rfl, fun l hl => by rw [Hsy.out] at hl; injection hl with hl; rw [← hl]; exact hS.out⟩, Below.refl _ _⟩
    · have hsy : symW L (m : Int) = none := by
        unfold symW; rw [if_neg (by omega), Int.toNat_natCast, List.getElem?_eq_none (by omega)]
      have Hsy := hide hsy
      clear hsy h
      go_enter Try.func75, Try.ntmps75
      go_wp2_with (go_at_call 78; refine (isterm_fn _ _).mono ?_; rintro e w' ⟨rfl, rfl⟩)
      all_goals first | (exfalso; omega) | skip
      go_ret2
      exact ⟨⟨_, by rw [Hsy.out]; rfl, fun l hl => by rw [Hsy.out] at hl; cases hl⟩, Below.refl _ _⟩
end Go.Proofs.Ythpjjlmgdalpaaa
