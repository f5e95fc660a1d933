/- The reference's table of what derives what: its place in memory; move. -/
import Derived.Test.YthpjjlmgdalpaaaE1
namespace Go.Proofs.Ythpjjlmgdalpaaa
open Go.RowKit

theorem cell_lt {W : World} {p : Addr} {v : Value} (h : W.cell? p = some v) : p.block < W.heap.size := by
  rcases Nat.lt_or_ge p.block W.heap.size with h1 | h1
  · exact h1
  · unfold World.cell? at h; rw [Array.getElem?_eq_none h1] at h; cases h

/-- The addresses of a table. -/
structure TV where
  eb : Nat
  ec : Nat
  fb : Nat
  fc : Nat
  r1 : Nat → Nat
  c1 : Nat → Nat
  r2 : Nat → Nat → Nat
  fr : Nat → Nat
/-- A table over n nonterminals and a word of m letters. -/
structure TabAt (W : World) (T : TV) (n m : Nat) (E : Nat → Nat → Nat → Bool) (F : Nat → Nat → Bool) : Prop where
  e0 : ∀ s, s < n → W.cell? ⟨T.eb, s, none⟩ = some (.slice (some ⟨T.r1 s, 0, none⟩) (m + 1) (T.c1 s))
  e1 : ∀ s, s < n → ∀ p, p ≤ m → W.cell? ⟨T.r1 s, p, none⟩ = some (.slice (some ⟨T.r2 s p, 0, none⟩) (m + 1) (m + 1))
  e2 : ∀ s, s < n → ∀ p, p ≤ m → ∀ q, q ≤ m → W.cell? ⟨T.r2 s p, q, none⟩ = some (.bool (E s p q))
  f0 : ∀ s, s < n → W.cell? ⟨T.fb, s, none⟩ = some (.slice (some ⟨T.fr s, 0, none⟩) (m + 1) (m + 1))
  f1 : ∀ s, s < n → ∀ q, q ≤ m → W.cell? ⟨T.fr s, q, none⟩ = some (.bool (F s q))
theorem TabAt.call {W W' : World} {T : TV} {n m : Nat} {E : Nat → Nat → Nat → Bool} {F : Nat → Nat → Bool} (h : TabAt W T n m E F) (hb : Below W.heap.size W W') : TabAt W' T n m E F :=
  ⟨fun s hs => (hb.cell (cell_lt (h.e0 s hs))).trans (h.e0 s hs), fun s hs p hp => (hb.cell (cell_lt (h.e1 s hs p hp))).trans (h.e1 s hs p hp), fun s hs p hp q hq => (hb.cell (cell_lt (h.e2 s hs p hp q hq))).trans (h.e2 s hs p hp q hq),
    fun s hs => (hb.cell (cell_lt (h.f0 s hs))).trans (h.f0 s hs), fun s hs q hq => (hb.cell (cell_lt (h.f1 s hs q hq))).trans (h.f1 s hs q hq)⟩
/-- One symbol leads from a place to another one. -/
def Arc (wl : List UInt8) (E : Nat → Nat → Nat → Bool) (s : Int) (p q : Nat) : Prop := if s < 0 then q = p + 1 ∧ ∃ h : p < wl.length, (wl[p].toNat : Int) = -1 - s else E s.toNat p q = true

theorem getD_set (R : List Bool) (k q : Nat) (hk : k < R.length) : (R.set k true).getD q false = true ↔ q = k ∨ R.getD q false = true := by
  by_cases h : k = q
  · subst h; simp [List.getD, hk]
  · simp only [List.getD, List.getElem?_set_ne h]
    constructor
    · exact .inr
    · rintro (h1 | h1)
      · exact absurd h1.symm h
      · exact h1
set_option maxHeartbeats 1000000 in
set_option maxRecDepth 8000 in
theorem move_any (G0 G1 G2 : Value) (X : ByteArray) (T : TV) (n m : Nat) (E : Nat → Nat → Nat → Bool) (F : Nat → Nat → Bool) (s : Int) (nb : Nat) (now : List Bool) (w : World) (hT : TabAt w T n m E F) (hX : X.size = m) (hm : m ≤ 1000) (hN : BB w nb now) (hnl : now.length = m + 1) (hs : -1000000 ≤ s) (hs2 : s < n) (hn : n ≤ T.ec) (hn2 : T.ec ≤ 9223372036854775807) :
    Calls Try.prog 115 #[.agg #[G0, G1, G2, .string X, .slice (some ⟨T.eb, 0, none⟩) n T.ec, .slice (some ⟨T.fb, 0, none⟩) n T.fc], .int .i64 s, .slice (some ⟨nb, 0, none⟩) (m + 1) (m + 1)] w fun e w' =>
      (∃ b R, e = .returned (.slice (some ⟨b, 0, none⟩) (m + 1) (m + 1)) ∧ w.heap.size ≤ b ∧ BB w' b R ∧ R.length = m + 1 ∧ ∀ q, q ≤ m → (R.getD q false = true ↔ ∃ p, p ≤ q ∧ now.getD p false = true ∧ Arc X.data.toList E s p q)) ∧ Below w.heap.size w w' := by
  subst hX
  have hmk : ∀ W : World, (Instr.makeSlice 59 (.int .i64 ((X.size : Int) + 1)) (.int .i64 ((X.size : Int) + 1))).run Try.prog W = .ok (.slice (some ⟨W.heap.size, 0, none⟩) (X.size + 1) (X.size + 1)) (W.alloc (.cells (bools (List.replicate (X.size + 1) false)).toArray 4)) := fun W => make_bools W (X.size + 1) (by omega)
  have w1 : IntKind.i64.wrap ((X.size : Int) + 1) = (X.size : Int) + 1 := IntWalk.i64_in _ (by omega)
  have Hb0 := hide (Bx.self (w := w) (cs := #[G0, G1, G2, .string X, .slice (some ⟨T.eb, 0, none⟩) n T.ec, .slice (some ⟨T.fb, 0, none⟩) n T.fc]) (T := 48))
  have HT := hide hT; have HN := hide hN
  clear hT hN
  go_enter Try.func115, Try.ntmps115
  go_wp2_with fail
  clear hmk
  go_loopw [9] (fun i V => ∃ W, W = V ∧ Bx w #[G0, G1, G2, .string X, .slice (some ⟨T.eb, 0, none⟩) n T.ec, .slice (some ⟨T.fb, 0, none⟩) n T.fc] 48 W ∧ ∃ (j : Nat) (R : List Bool), j ≤ X.size + 1 ∧ i = .int .i64 j ∧ BB W (w.heap.size + 1) R ∧ R.length = X.size + 1 ∧ Hid (∀ q, q ≤ X.size → (R.getD q false = true ↔ ∃ p, p < j ∧ p ≤ q ∧ now.getD p false = true ∧ Arc X.data.toList E s p q))) (fun i _ => X.size + 1 - (intOf i).toNat)
  case atStart =>
    refine ⟨_, rfl, Hb0.out.alloc _, 0, List.replicate (X.size + 1) false, by omega, rfl, ?_, by simp, fun q hq => ?_⟩
    · have := Blk.new (w.alloc (.cells #[G0, G1, G2, .string X, .slice (some ⟨T.eb, 0, none⟩) n T.ec, .slice (some ⟨T.fb, 0, none⟩) n T.fc] 48)) 4 (bools (List.replicate (X.size + 1) false)).toArray
      show Blk _ (w.heap.size + 1) 4 (bools (List.replicate (X.size + 1) false)).toArray
      simpa using this
    · simp [List.getD, show q < X.size + 1 by omega]
  case round =>
    clear Hb0
    obtain ⟨W, rfl, hbx, p, R, hp, rfl, hR, hRl, hspec⟩ := hrel
    have cT := hbx.cell
    have hsz := hbx.lt
    have hlt2 := hR.lt
    by_cases hlt : p ≤ X.size
    · have e1 : W.cell? ⟨nb, p, none⟩ = some (.bool (now.getD p false)) := (hbx.below.cell (p := ⟨nb, p, none⟩) HN.out.lt).trans (HN.out.at_ p (by omega))
      cases hnow : now.getD p false
      · rw [hnow] at e1
        have Hs : Hid (∀ q, q ≤ X.size → (R.getD q false = true ↔ ∃ p', p' < p + 1 ∧ p' ≤ q ∧ now.getD p' false = true ∧ Arc X.data.toList E s p' q)) := by
          intro q hq
          rw [hspec.out q hq]
          constructor
          · rintro ⟨p', a, b, c, d⟩; exact ⟨p', by omega, b, c, d⟩
          · rintro ⟨p', a, b, c, d⟩
            refine ⟨p', ?_, b, c, d⟩
            rcases Nat.lt_or_ge p' p with h | h
            · exact h
            · obtain rfl : p' = p := by omega
              rw [hnow] at c; cases c
        clear hnow
        go_wp2_with fail
        all_goals first | (exfalso; omega) | skip
        go_roundw
        case rel => exact ⟨_, rfl, hbx, p + 1, R, by omega, by go_num, hR, hRl, Hs.out⟩
        case measure => simp [intOf]; omega
      · rw [hnow] at e1
        have Hnow := hide hnow
        clear hnow
        -- what stays where nothing is set
        have Hsame : Hid ((∀ q, p ≤ q → q ≤ X.size → ¬ Arc X.data.toList E s p q) → ∀ q, q ≤ X.size → (R.getD q false = true ↔ ∃ p', p' < p + 1 ∧ p' ≤ q ∧ now.getD p' false = true ∧ Arc X.data.toList E s p' q)) := by
          intro hna q hq
          rw [hspec.out q hq]
          constructor
          · rintro ⟨p', a, b, c, d⟩; exact ⟨p', by omega, b, c, d⟩
          · rintro ⟨p', a, b, c, d⟩
            refine ⟨p', ?_, b, c, d⟩
            rcases Nat.lt_or_ge p' p with h | h
            · exact h
            · obtain rfl : p' = p := by omega
              exact absurd d (hna q b hq)
        by_cases h0 : s < 0
        · have w2 : IntKind.i64.wrap (-1 - s) = -1 - s := IntWalk.i64_in _ (by omega)
          by_cases hpm : p < X.size
          · have wx : wrap64 (X[p].toNat : Int) = X[p].toNat := by have := X[p].toNat_lt; unfold wrap64; omega
            have hpm' : (p : Int) < X.size := by omega
            by_cases he : (X[p].toNat : Int) = -1 - s
            · have hbe : ((X[p].toNat : Int) == -1 - s) = true := by rw [beq_iff_eq]; exact he
              have fz := hR.frozen (p + 1)
              have e2 := hR.at_ (p + 1) (by omega)
              have Hs : Hid (∀ q, q ≤ X.size → ((R.set (p + 1) true).getD q false = true ↔ ∃ p', p' < p + 1 ∧ p' ≤ q ∧ now.getD p' false = true ∧ Arc X.data.toList E s p' q)) := by
                intro q hq
                rw [getD_set R (p + 1) q (by omega), hspec.out q hq]
                constructor
                · rintro (rfl | ⟨p', a, b, c, d⟩)
                  · refine ⟨p, by omega, by omega, Hnow.out, ?_⟩
                    unfold Arc; rw [if_pos h0]
                    exact ⟨rfl, by simpa using hpm, he⟩
                  · exact ⟨p', by omega, b, c, d⟩
                · rintro ⟨p', a, b, c, d⟩
                  rcases Nat.lt_or_ge p' p with h | h
                  · exact .inr ⟨p', h, b, c, d⟩
                  · obtain rfl : p' = p := by omega
                    unfold Arc at d; rw [if_pos h0] at d
                    exact .inl d.1
              have HR := hide hR
              have Hb := hide hbx
              clear hR hbx he
              go_wp2_with fail
              all_goals first | (exfalso; omega) | skip
              go_roundw
              case rel => exact ⟨_, rfl, Hb.out.set _ _ (by omega) _, p + 1, R.set (p + 1) true, by omega, by go_num, HR.out.set _ _, by simpa using hRl, Hs.out⟩
              case measure => simp [intOf]; omega
            · have hbe : ((X[p].toNat : Int) == -1 - s) = false := by rw [beq_eq_false_iff_ne]; exact he
              have Hs := hide (Hsame.out fun q hq1 hq2 hA => by
                unfold Arc at hA; rw [if_pos h0] at hA
                obtain ⟨_, h, e⟩ := hA
                exact he e)
              clear he
              go_wp2_with fail
              all_goals first | (exfalso; omega) | skip
              go_roundw
              case rel => exact ⟨_, rfl, hbx, p + 1, R, by omega, by go_num, hR, hRl, Hs.out⟩
              case measure => simp [intOf]; omega
          · have Hs := hide (Hsame.out fun q hq1 hq2 hA => by
              unfold Arc at hA; rw [if_pos h0] at hA
              omega)
            have hpm' : ¬ ((p : Int) < X.size) := by omega
            go_wp2_with fail
            all_goals first | (exfalso; omega) | skip
            go_roundw
            case rel => exact ⟨_, rfl, hbx, p + 1, R, by omega, by go_num, hR, hRl, Hs.out⟩
            case measure => simp [intOf]; omega
        · obtain ⟨m, rfl⟩ := Int.eq_ofNat_of_zero_le (by omega : 0 ≤ s)
          have hmn : m < n := by omega
          have HTW := hide (HT.out.call hbx.below)
          have HR := hide hR
          have Hb := hide hbx
          clear hR hbx Hsame
          go_wp2_with fail
          clear cT e1 hsz hlt2
          go_loopw [10] (fun y V => ∃ U, U = V ∧ Bx w #[G0, G1, G2, .string X, .slice (some ⟨T.eb, 0, none⟩) n T.ec, .slice (some ⟨T.fb, 0, none⟩) n T.fc] 48 U ∧ ∃ (j : Nat) (R2 : List Bool), p ≤ j ∧ j ≤ X.size + 1 ∧ y = .int .i64 j ∧ BB U (w.heap.size + 1) R2 ∧ R2.length = X.size + 1 ∧ Hid (∀ q, q ≤ X.size → (R2.getD q false = true ↔ (∃ p', p' < p ∧ p' ≤ q ∧ now.getD p' false = true ∧ Arc X.data.toList E (m : Int) p' q) ∨ (p ≤ q ∧ q < j ∧ E m p q = true)))) (fun y _ => X.size + 1 - (intOf y).toNat)
          case atStart => exact ⟨_, rfl, Hb.out, p, R, Nat.le_refl _, by omega, rfl, HR.out, hRl, fun q hq => by rw [hspec.out q hq]; exact ⟨.inl, fun h => h.elim id fun h => by omega⟩⟩
          case round =>
            clear Hb HR HTW
            obtain ⟨U, rfl, hbx, j, R2, hj0, hj, rfl, hR, hRl2, hsp⟩ := hrel
            have cT := hbx.cell
            have hsz := hbx.lt
            have hlt2 := hR.lt
            have HTU := HT.out.call hbx.below
            have t0 := HTU.e0 m hmn
            have t1 := HTU.e1 m hmn p hlt
            by_cases hjl : j ≤ X.size
            · have t2 := HTU.e2 m hmn p hlt j hjl
              have fz := hR.frozen j
              have e2 := hR.at_ j (by omega)
              have HR := hide hR
              have Hb := hide hbx
              clear hR hbx HTU
              cases hE : E m p j
              · rw [hE] at t2
                have Hs : Hid (∀ q, q ≤ X.size → (R2.getD q false = true ↔ (∃ p', p' < p ∧ p' ≤ q ∧ now.getD p' false = true ∧ Arc X.data.toList E (m : Int) p' q) ∨ (p ≤ q ∧ q < j + 1 ∧ E m p q = true))) := by
                  intro q hq
                  rw [hsp.out q hq]
                  constructor
                  · rintro (h | ⟨a, b, c⟩)
                    · exact .inl h
                    · exact .inr ⟨a, by omega, c⟩
                  · rintro (h | ⟨a, b, c⟩)
                    · exact .inl h
                    · refine .inr ⟨a, ?_, c⟩
                      rcases Nat.lt_or_ge q j with h | h
                      · exact h
                      · obtain rfl : q = j := by omega
                        rw [hE] at c; cases c
                clear hE
                go_wp2_with fail
                all_goals first | (exfalso; omega) | skip
                go_roundw
                case rel => exact ⟨_, rfl, Hb.out, j + 1, R2, by omega, by omega, by go_num, HR.out, hRl2, Hs.out⟩
                case measure => simp [intOf]; omega
              · rw [hE] at t2
                have Hs : Hid (∀ q, q ≤ X.size → ((R2.set j true).getD q false = true ↔ (∃ p', p' < p ∧ p' ≤ q ∧ now.getD p' false = true ∧ Arc X.data.toList E (m : Int) p' q) ∨ (p ≤ q ∧ q < j + 1 ∧ E m p q = true))) := by
                  intro q hq
                  rw [getD_set R2 j q (by omega), hsp.out q hq]
                  constructor
                  · rintro (rfl | h | ⟨a, b, c⟩)
                    · exact .inr ⟨hj0, by omega, hE⟩
                    · exact .inl h
                    · exact .inr ⟨a, by omega, c⟩
                  · rintro (h | ⟨a, b, c⟩)
                    · exact .inr (.inl h)
                    · rcases Nat.lt_or_ge q j with h | h
                      · exact .inr (.inr ⟨a, h, c⟩)
                      · exact .inl (by omega)
                clear hE
                go_wp2_with fail
                all_goals first | (exfalso; omega) | skip
                go_roundw
                case rel => exact ⟨_, rfl, Hb.out.set _ _ (by omega) _, j + 1, R2.set j true, by omega, by omega, by go_num, HR.out.set _ _, by simpa using hRl2, Hs.out⟩
                case measure => simp [intOf]; omega
            · obtain rfl : j = X.size + 1 := by omega
              have Hs : Hid (∀ q, q ≤ X.size → (R2.getD q false = true ↔ ∃ p', p' < p + 1 ∧ p' ≤ q ∧ now.getD p' false = true ∧ Arc X.data.toList E (m : Int) p' q)) := by
                intro q hq
                rw [hsp.out q hq]
                constructor
                · rintro (⟨p', a, b, c, d⟩ | ⟨a, b, c⟩)
                  · exact ⟨p', by omega, b, c, d⟩
                  · exact ⟨p, by omega, a, Hnow.out, by unfold Arc; rw [if_neg (by omega)]; exact c⟩
                · rintro ⟨p', a, b, c, d⟩
                  rcases Nat.lt_or_ge p' p with h | h
                  · exact .inl ⟨p', h, b, c, d⟩
                  · obtain rfl : p' = p := by omega
                    unfold Arc at d; rw [if_neg (by omega)] at d
                    exact .inr ⟨b, by omega, d⟩
              clear HTU
              go_wp2_with fail
              all_goals first | (exfalso; omega) | skip
              go_roundw
              case rel => exact ⟨_, rfl, hbx, p + 1, R2, by omega, by go_num, hR, hRl2, Hs.out⟩
              case measure => simp [intOf]; omega
    · obtain rfl : p = X.size + 1 := by omega
      go_wp2_with fail
      all_goals first | (exfalso; omega) | skip
      go_ret
      refine ⟨⟨w.heap.size + 1, R, rfl, by omega, hR, hRl, fun q hq => ?_⟩, hbx.below⟩
      rw [hspec.out q hq]
      constructor
      · rintro ⟨p, _, a, b, c⟩; exact ⟨p, a, b, c⟩
      · rintro ⟨p, a, b, c⟩; exact ⟨p, by omega, a, b, c⟩
end Go.Proofs.Ythpjjlmgdalpaaa
