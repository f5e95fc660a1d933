/- ref20.Ends. -/
import Derived.Test.YthpjjlmgdalpaaaE2
namespace Go.Proofs.Ythpjjlmgdalpaaa
open Go.RowKit

/-- A string of symbols leads from a place to another one. -/
def Path (wl : List UInt8) (E : Nat → Nat → Nat → Bool) : List Int → Nat → Nat → Prop
  | [], p, q => p = q
  | s :: r, p, q => ∃ p', p ≤ p' ∧ p' ≤ wl.length ∧ Arc wl E s p p' ∧ Path wl E r p' q
theorem path_snoc (wl : List UInt8) (E : Nat → Nat → Nat → Bool) (s : Int) : ∀ (r : List Int) (p q : Nat), q ≤ wl.length → (Path wl E (r ++ [s]) p q ↔ ∃ p', p' ≤ q ∧ p' ≤ wl.length ∧ Path wl E r p p' ∧ Arc wl E s p' q) := by
  intro r
  induction r with
  | nil =>
    intro p q hq
    simp only [List.nil_append, Path]
    constructor
    · rintro ⟨p', h1, h2, h3, rfl⟩; exact ⟨p, h1, by omega, rfl, h3⟩
    · rintro ⟨p', h1, h2, rfl, h3⟩; exact ⟨q, h1, hq, h3, rfl⟩
  | cons t r ih =>
    intro p q hq
    simp only [List.cons_append, Path]
    constructor
    · rintro ⟨p1, h1, h2, h3, h4⟩
      obtain ⟨p', h5, h6, h7, h8⟩ := (ih p1 q hq).1 h4
      exact ⟨p', h5, h6, ⟨p1, h1, h2, h3, h7⟩, h8⟩
    · rintro ⟨p', h5, h6, ⟨p1, h1, h2, h3, h7⟩, h8⟩
      exact ⟨p1, h1, h2, h3, (ih p1 q hq).2 ⟨p', h5, h6, h7, h8⟩⟩

set_option maxHeartbeats 1000000 in
set_option maxRecDepth 8000 in
theorem ends_any (G0 G1 G2 : Value) (X : ByteArray) (T : TV) (n : Nat) (E : Nat → Nat → Nat → Bool) (F : Nat → Nat → Bool) (A : Option Addr) (c : Nat) (syms : List Int) (a : Nat) (w : World) (hT : TabAt w T n X.size E F) (hm : X.size ≤ 1000) (hA : SlAt w w.heap.size A (ints syms)) (hc : syms.length ≤ c) (hl : syms.length ≤ 1000000)
    (hs : ∀ s ∈ syms, -1000000 ≤ s ∧ s < n) (hn : n ≤ T.ec) (hn2 : T.ec ≤ 9223372036854775807) (ha : a ≤ X.size) :
    Calls Try.prog 73 #[.agg #[G0, G1, G2, .string X, .slice (some ⟨T.eb, 0, none⟩) n T.ec, .slice (some ⟨T.fb, 0, none⟩) n T.fc], .slice A syms.length c, .int .i64 a] w fun e w' =>
      (∃ b R, e = .returned (.slice (some ⟨b, 0, none⟩) (X.size + 1) (X.size + 1)) ∧ w.heap.size ≤ b ∧ BB w' b R ∧ R.length = X.size + 1 ∧ ∀ q, q ≤ X.size → (R.getD q false = true ↔ Path X.data.toList E syms a q)) ∧ Below w.heap.size w w' := by
  have hmk : ∀ W : World, (Instr.makeSlice 59 (.int .i64 ((X.size : Int) + 1)) (.int .i64 ((X.size : Int) + 1))).run Try.prog W = .ok (.slice (some ⟨W.heap.size, 0, none⟩) (X.size + 1) (X.size + 1)) (W.alloc (.cells (bools (List.replicate (X.size + 1) false)).toArray 4)) := fun W => make_bools W (X.size + 1) (by omega)
  have w1 : IntKind.i64.wrap ((X.size : Int) + 1) = (X.size : Int) + 1 := IntWalk.i64_in _ (by omega)
  have Hb0 := hide (Bx.self (w := w) (cs := #[G0, G1, G2, .string X, .slice (some ⟨T.eb, 0, none⟩) n T.ec, .slice (some ⟨T.fb, 0, none⟩) n T.fc]) (T := 48))
  have HT := hide hT; have HA := hide hA; have Hs := hide hs
  have e00 : (Array.replicate (X.size + 1) (Value.bool false))[a]? = some (.bool false) := by rw [Array.getElem?_replicate, if_pos (by omega)]
  clear hT hA hs
  go_enter Try.func73, Try.ntmps73
  go_wp2_with fail
  clear hmk e00
  all_goals first | (exfalso; omega) | skip
  go_loopw [7, 8] (fun v y V => ∃ W, W = V ∧ Bx w #[G0, G1, G2, .string X, .slice (some ⟨T.eb, 0, none⟩) n T.ec, .slice (some ⟨T.fb, 0, none⟩) n T.fc] 48 W ∧ ∃ (j b : Nat) (R : List Bool), j ≤ syms.length ∧ y = .int .i64 j ∧ v = .slice (some ⟨b, 0, none⟩) (X.size + 1) (X.size + 1) ∧ w.heap.size ≤ b ∧ BB W b R ∧ R.length = X.size + 1 ∧ Hid (∀ q, q ≤ X.size → (R.getD q false = true ↔ Path X.data.toList E (syms.take j) a q))) (fun _ y _ => syms.length - (intOf y).toNat)
  case atStart =>
    refine ⟨_, rfl, Hb0.out.alloc _, 0, w.heap.size + 1, (List.replicate (X.size + 1) false).set a true, by omega, rfl, rfl, by omega, ?_, by simp, fun q hq => ?_⟩
    · have := Blk.new (w.alloc (.cells #[G0, G1, G2, .string X, .slice (some ⟨T.eb, 0, none⟩) n T.ec, .slice (some ⟨T.fb, 0, none⟩) n T.fc] 48)) 4 ((Array.replicate (X.size + 1) (Value.bool false)).setIfInBounds a (Value.bool true))
      have e : (bools ((List.replicate (X.size + 1) false).set a true)).toArray = (Array.replicate (X.size + 1) (Value.bool false)).setIfInBounds a (Value.bool true) := by
        apply Array.ext'; simp [List.map_set]
      unfold BB
      rw [e]
      simpa using this
    · rw [getD_set _ _ _ (by simp; omega)]
      simp only [List.take_zero, Path]
      constructor
      · rintro (h | h)
        · exact h.symm
        · simp [List.getD, show q < X.size + 1 by omega] at h
      · rintro rfl; exact .inl rfl
  case round =>
    clear Hb0
    obtain ⟨W, rfl, hbx, j, b, R, hj, rfl, rfl, hwb, hR, hRl, hspec⟩ := hrel
    have cT := hbx.cell
    have hsz := hbx.lt
    by_cases hlt : j < syms.length
    · obtain ⟨b1, off1, rfl, hb1, hcs⟩ := HA.out.at_ (k := j) (by simpa using hlt)
      have d1 := (hbx.below.cell (p := ⟨b1, off1 + j, none⟩) hb1).trans (hcs j _ (ints_at syms j hlt))
      have hsb := Hs.out _ (List.getElem_mem hlt)
      have Hmv := hide (fun (W' : World) (hW : W'.heap = W.heap) => move_any G0 G1 G2 X T n X.size E F syms[j] b R W' (by
          have := HT.out.call hbx.below
          exact ⟨fun s hs => by have h := this.e0 s hs; unfold World.cell? at h ⊢; rw [hW]; exact h, fun s hs p hp => by have h := this.e1 s hs p hp; unfold World.cell? at h ⊢; rw [hW]; exact h, fun s hs p hp q hq => by have h := this.e2 s hs p hp q hq; unfold World.cell? at h ⊢; rw [hW]; exact h, fun s hs => by have h := this.f0 s hs; unfold World.cell? at h ⊢; rw [hW]; exact h, fun s hs q hq => by have h := this.f1 s hs q hq; unfold World.cell? at h ⊢; rw [hW]; exact h⟩) rfl hm (show BB W' b R from by unfold BB Blk; rw [hW]; exact hR) hRl hsb.1 hsb.2 hn hn2)
      have Hb := hide hbx
      clear hcs hR hbx
      go_wp2_with fail
      go_region_with (go_at_call 115; refine (Hmv.out W.drew rfl).mono ?_; rintro e w2 ⟨⟨b2, R2, rfl, hb2, hR2, hl2, hsp2⟩, hbw⟩)
      all_goals
        have hb3 : Bx w #[G0, G1, G2, .string X, .slice (some ⟨T.eb, 0, none⟩) n T.ec, .slice (some ⟨T.fb, 0, none⟩) n T.fc] 48 w2 := Hb.out.drew.call hbw
        have hWb : w.heap.size ≤ b2 := Nat.le_trans (Nat.le_of_lt hsz) hb2
        have Hsp : Hid (∀ q, q ≤ X.size → (R2.getD q false = true ↔ Path X.data.toList E (syms.take (j + 1)) a q)) := by
          intro q hq
          have hq' : q ≤ X.data.toList.length := by simpa using hq
          rw [hsp2 q hq, List.take_succ_eq_append_getElem hlt, path_snoc _ _ _ _ _ _ hq']
          constructor
          · rintro ⟨p, h1, h2, h3⟩; exact ⟨p, h1, by omega, (hspec.out p (by omega)).1 h2, h3⟩
          · rintro ⟨p, h1, _, h2, h3⟩; exact ⟨p, h1, (hspec.out p (by omega)).2 h2, h3⟩
        go_wp2_with fail
        go_roundw
        case rel => exact ⟨_, rfl, hb3, j + 1, b2, R2, by omega, by go_num, rfl, hWb, hR2, hl2, Hsp.out⟩
        case measure => simp [intOf]; omega
    · obtain rfl : j = syms.length := by omega
      go_wp2_with fail
      all_goals first | (exfalso; omega) | skip
      go_ret
      have := hspec.out
      rw [List.take_length] at this
      exact ⟨⟨b, R, rfl, hwb, hR, hRl, this⟩, hbx.below⟩
end Go.Proofs.Ythpjjlmgdalpaaa
