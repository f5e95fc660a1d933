/- ref20.Make: the walk. -/
import Derived.Test.YthpjjlmgdalpaaaE6
import Derived.Test.YthpjjlmgdalpaaaE8
import Derived.Deep.LoopGhost
import Derived.Deep.DeepCutAuto
namespace Go.Proofs.Ythpjjlmgdalpaaa
open Go.RowKit

theorem infoBs : (Try.prog.info? 59).map (fun i => (i.zero, i.size, i.bytes)) = some (some (.slice none 0 0), 1, 24) := by kernel_rfl
theorem infoBss : (Try.prog.info? 46).map (fun i => (i.zero, i.size, i.bytes)) = some (some (.slice none 0 0), 1, 24) := by kernel_rfl
theorem rowsV_len (m j : Nat) (r : Nat → Nat) : (rowsV m j r).length = j := by unfold rowsV; simp
theorem eV_len (m i : Nat) (T : TV) : (eV m i T).length = i := by unfold eV; simp
theorem fV_len (m i : Nat) (T : TV) : (fV m i T).length = i := by unfold fV; simp

def MakePost (w : World) (rs : List Rule) (n : Nat) (G0 G1 G2 : Value) (X : ByteArray) (e : Ending) (w' : World) : Prop :=
  (∃ (T : TV) (E : Nat → Nat → Nat → Bool) (F : Nat → Nat → Bool), e = .returned (.agg #[G0, G1, G2, .string X, .slice (some ⟨T.eb, 0, none⟩) n T.ec, .slice (some ⟨T.fb, 0, none⟩) n T.fc]) ∧ (∃ bx cs, w.heap.size ≤ bx ∧ Fix20 w' bx n X.size cs T E F) ∧ Snd rs X.data.toList n E F ∧ Cls rs X.data.toList E F) ∧ Below w.heap.size w w'

set_option maxHeartbeats 2000000 in
set_option maxRecDepth 20000 in
theorem make20_any (v : GV) (g : G) (X : ByteArray) (w : World) (hg : GAt w w.heap.size v g) (hv : VG g) (hX : X.size ≤ 1000) (hP : ∀ s, s < g.names.length → ∃ y, Der g.rules [(s : Int)] y) :
    Calls Try.prog 27 #[.agg #[.slice v.An g.names.length v.cn, .slice v.At g.terms.length v.ct, .slice v.Ar g.rules.length v.cr], .string X] w (MakePost w g.rules g.names.length (.slice v.An g.names.length v.cn) (.slice v.At g.terms.length v.ct) (.slice v.Ar g.rules.length v.cr) X) := by
  have hmk : ∀ W : World, (Instr.makeSlice 59 (.int .i64 ((X.size : Int) + 1)) (.int .i64 ((X.size : Int) + 1))).run Try.prog W = .ok (.slice (some ⟨W.heap.size, 0, none⟩) (X.size + 1) (X.size + 1)) (W.alloc (.cells (bools (List.replicate (X.size + 1) false)).toArray 4)) := fun W => make_bools W (X.size + 1) (by omega)
  have w1 : IntKind.i64.wrap ((X.size : Int) + 1) = (X.size : Int) + 1 := IntWalk.i64_in _ (by omega)
  have hsm : g.names.length ≤ 1000000 ∧ g.terms.length ≤ 1000000 := by have := hv.sy; omega
  have hn1 := hv.n1
  have hrl := hv.rl
  have Hbe : Hid ((bools (List.replicate (X.size + 1) false)).toArray = Array.replicate (X.size + 1) (Value.bool false)) := by unfold Hid; simp [bools]
  have HG := hide hg
  have HV := hide hv
  have HP := hide hP
  have Hb0 := hide (Bx.self (w := w) (cs := #[.slice v.An g.names.length v.cn, .slice v.At g.terms.length v.ct, .slice v.Ar g.rules.length v.cr]) (T := 25))
  clear hg hv hP
  obtain ⟨An, cn, At, ct, Ar, cr⟩ := v
  dsimp only at Hb0 HG
  go_enter Try.func27, Try.ntmps27
  go_wp2_with fail
  have HT0 : Hid (Tbl (((w.alloc (.cells #[.slice An g.names.length cn, .slice At g.terms.length ct, .slice Ar g.rules.length cr] 25)).alloc (.cells #[.slice none 0 0, .slice none 0 0, .slice none 0 0, .string ⟨#[]⟩, .slice none 0 0, .slice none 0 0] 48)).alloc (.cells #[.slice An g.names.length cn, .slice At g.terms.length ct, .slice Ar g.rules.length cr, .string X, .slice none 0 0, .slice none 0 0] 48)) (w.heap.size + 1 + 1) 0 0 X.size #[.slice An g.names.length cn, .slice At g.terms.length ct, .slice Ar g.rules.length cr, .string X] ⟨0, 0, 0, 0, fun _ => 0, fun _ => 0, fun _ _ => 0, fun _ => 0⟩) := by
    refine ⟨⟨.slice none 0 0, .slice none 0 0, ?_, Own.nil _ _ _, Own.nil _ _ _, fun s hs => by omega⟩, fun s hs => by omega, fun s hs => by omega, fun s hs => by omega, fun s hs => by omega, fun s hs => by omega, fun s hs => by omega, fun s s' _ hs => by omega, fun s hs => by omega⟩
    have := Blk.new ((w.alloc (.cells #[.slice An g.names.length cn, .slice At g.terms.length ct, .slice Ar g.rules.length cr] 25)).alloc (.cells #[.slice none 0 0, .slice none 0 0, .slice none 0 0, .string ⟨#[]⟩, .slice none 0 0, .slice none 0 0] 48)) 48 #[.slice An g.names.length cn, .slice At g.terms.length ct, .slice Ar g.rules.length cr, .string X, .slice none 0 0, .slice none 0 0]
    simpa using this
  have Hw0 : Hid (Below (w.heap.size + 1 + 1) ((w.alloc (.cells #[.slice An g.names.length cn, .slice At g.terms.length ct, .slice Ar g.rules.length cr] 25)).alloc (.cells #[.slice none 0 0, .slice none 0 0, .slice none 0 0, .string ⟨#[]⟩, .slice none 0 0, .slice none 0 0] 48)) (((w.alloc (.cells #[.slice An g.names.length cn, .slice At g.terms.length ct, .slice Ar g.rules.length cr] 25)).alloc (.cells #[.slice none 0 0, .slice none 0 0, .slice none 0 0, .string ⟨#[]⟩, .slice none 0 0, .slice none 0 0] 48)).alloc (.cells #[.slice An g.names.length cn, .slice At g.terms.length ct, .slice Ar g.rules.length cr, .string X, .slice none 0 0, .slice none 0 0] 48))) := (Below.refl _ _).alloc (by simp) _
  obtain ⟨W00, hW00⟩ : ∃ W00, W00 = ((w.alloc (.cells #[.slice An g.names.length cn, .slice At g.terms.length ct, .slice Ar g.rules.length cr] 25)).alloc (.cells #[.slice none 0 0, .slice none 0 0, .slice none 0 0, .string ⟨#[]⟩, .slice none 0 0, .slice none 0 0] 48)) := ⟨_, rfl⟩
  have HG0 : Hid (∀ i, W00.cell? ⟨w.heap.size, i, none⟩ = #[Value.slice An g.names.length cn, .slice At g.terms.length ct, .slice Ar g.rules.length cr][i]?) := by
    intro i; rw [hW00]; exact (((Blk.new w 25 _).alloc _).cell i)
  have HR0 : Hid (Blk W00 (w.heap.size + 1) 48 #[.slice none 0 0, .slice none 0 0, .slice none 0 0, .string ⟨#[]⟩, .slice none 0 0, .slice none 0 0]) := by
    rw [hW00]
    have := Blk.new (w.alloc (.cells #[.slice An g.names.length cn, .slice At g.terms.length ct, .slice Ar g.rules.length cr] 25)) 48 #[.slice none 0 0, .slice none 0 0, .slice none 0 0, .string ⟨#[]⟩, .slice none 0 0, .slice none 0 0]
    have e : (w.alloc (.cells #[.slice An g.names.length cn, .slice At g.terms.length ct, .slice Ar g.rules.length cr] 25)).heap.size = w.heap.size + 1 := by simp
    rw [e] at this
    exact this
  have HW00' : ∀ {V : World}, V = ((w.alloc (.cells #[.slice An g.names.length cn, .slice At g.terms.length ct, .slice Ar g.rules.length cr] 25)).alloc (.cells #[.slice none 0 0, .slice none 0 0, .slice none 0 0, .string ⟨#[]⟩, .slice none 0 0, .slice none 0 0] 48)) → Below w.heap.size w V := fun h => by
    rw [h]; exact ((Below.refl _ _).alloc (Nat.le_refl _) _).alloc (by simp) _
  rw [← hW00] at HT0 Hw0 ⊢
  have HW00 := hide hW00
  clear hW00
  go_loopw [6] (fun i V => ∃ W, W = V ∧ Below (w.heap.size + 1 + 1) W00 W ∧ ∃ (k : Nat) (T : TV), k ≤ g.names.length ∧ i = .int .i64 k ∧ Tbl W (w.heap.size + 1 + 1) k k X.size #[.slice An g.names.length cn, .slice At g.terms.length ct, .slice Ar g.rules.length cr, .string X] T) (fun i _ => g.names.length - (intOf i).toNat)
  case atStart => exact ⟨_, rfl, Hw0.out, 0, _, by omega, rfl, HT0.out⟩
  case round =>
    clear HT0 Hw0
    obtain ⟨W, rfl, hb, k, T, hk, rfl, hT⟩ := hrel
    have h00 : w.heap.size + 1 + 1 ≤ W00.heap.size := by rw [HW00.out]; simp
    have cG := fun i => (hb.cell (p := ⟨w.heap.size, i, none⟩) (by show w.heap.size < _; omega)).trans (HG0.out i)
    have hWs := hb.size
    by_cases hlt : k < g.names.length
    · --<skip
      have HT := hide hT; have Hb := hide hb
      clear hT hb
      go_wp2_with fail
      go_loopw [7, 8] (fun v p V => ∃ U, U = V ∧ Below W.heap.size W U ∧ ∃ (j : Nat) (r : Nat → Nat), j ≤ X.size + 1 ∧ p = .int .i64 j ∧ Rows20 U W.heap.size j X.size r v) (fun _ p _ => X.size + 1 - (intOf p).toNat)
      case atStart => exact ⟨_, rfl, Below.refl _ _, 0, fun _ => 0, by omega, rfl, Rows20.nil _ _ _ _⟩
      case round =>
        clear cG
        obtain ⟨U, rfl, hbU, j, r, hj, rfl, hR⟩ := hrel
        have hUs := hbU.size
        by_cases hjl : j ≤ X.size
        · have HR := hide hR; have HbU := hide hbU
          clear hR hbU
          go_wp2_with (first
            | (at_builtin; go_must (refine wp_push U _ rfl _ _ _ rfl W.heap.size 59 (.slice none 0 0) 24 Try.underlying46 infoBs rfl _ _ rfl (HR.out.own.alloc _) (.slice (some ⟨U.heap.size, 0, none⟩) (X.size + 1) (X.size + 1)) ⟨_, rfl, by simp⟩ rfl (by rw [rowsV_len X.size j r]; omega) ((Below.refl _ _).alloc hUs _) hUs (by decide) ?_);
               intro v' w1 h1 h2 h3 h4)
            | go_in)
          go_roundw
          case rel => exact ⟨_, rfl, HbU.out.trans h2, j + 1, _, by omega, by go_num, HR.out.push hUs h1 (by rw [Hbe.out]; exact h3)⟩
          case measure => simp [intOf]; omega
        · obtain rfl : j = X.size + 1 := by omega
          have hTU := HT.out.below hbU
          obtain ⟨vE, vF, b1, b2, b3, b4⟩ := hTU.box
          have d4 := b1.cell 4
          have d5 := b1.cell 5
          have f4 := b1.frozen 4
          obtain ⟨Av, cv, hveq, q1, q2, q3, q4⟩ := id hR.own.form
          rw [rowsV_len] at q1 hveq
          subst hveq
          obtain ⟨gv, rfl, q5, q6⟩ := q4 (by intro e; have := congrArg List.length e; rw [rowsV_len] at this; simp at this)
          have hFB : ∀ g, vF.ownBlock = some g → g < W.heap.size := by
            obtain ⟨vE', vF', a1, a2, a3, a4⟩ := HT.out.box
            have hq : vF' = vF := by
              have h1 := (a1.below hbU a1.lt).cell 5
              rw [d5] at h1
              simpa using h1.symm
            subst hq
            exact fun g hg => (a3.block g hg).2
          have HTU := hide hTU
          have H1 := hide b1; have H2 := hide b2; have H3 := hide b3; have H4 := hide b4
          have HR := hide hR; have HbU := hide hbU
          have cGU := fun i => (hbU.cell (p := ⟨w.heap.size, i, none⟩) (by show w.heap.size < _; omega)).trans ((Hb.out.cell (p := ⟨w.heap.size, i, none⟩) (by show w.heap.size < _; omega)).trans (HG0.out i))
          clear hTU b1 b2 b3 b4 hR hbU q3 q4 
          have htU : w.heap.size + 1 + 1 + 1 ≤ U.heap.size := H1.out.lt
          go_upto_region 11 with (first
            | (at_builtin; go_must (refine wp_push U _ rfl _ _ _ rfl (w.heap.size + 1 + 1 + 1) 46 (.slice none 0 0) 24 Try.underlying45 infoBss rfl _ _ rfl H2.out (.slice (some ⟨gv, 0, none⟩) (X.size + 1) cv) (by exact ⟨_, rfl, rfl⟩) rfl (by rw [eV_len X.size k T]; omega) (Below.refl _ _) htU (by decide) ?_);
               intro vE' w1 e1 e2 e3 e4;
               have E3 : Hid ((U.alloc (.cells #[.slice (some ⟨gv, 0, none⟩) (X.size + 1) cv] 46)).grownBy w1 vE.ownBlock) := e3;
               have KB1 := hide ((H1.out.alloc (.cells #[.slice (some ⟨gv, 0, none⟩) (X.size + 1) cv] 46)).own_grown (H2.out.alloc _) (by decide) E3.out);
               have fz1 := KB1.out.frozen 4; have fz2 := KB1.out.frozen 5;
               have cz4 : w1.cell? ⟨w.heap.size + 1 + 1, 4, none⟩ = some vE := KB1.out.cell 4;
               have cz5 : w1.cell? ⟨w.heap.size + 1 + 1, 5, none⟩ = some vF := KB1.out.cell 5;
               obtain ⟨Ae, ce, he, -, -, -, -⟩ := id e1.form;
               rw [List.length_append, eV_len] at he;
               subst he;
               have hw1 : w.heap.size + 1 + 1 < w1.heap.size := KB1.out.lt;
               have E1 := hide e1; have E2 := hide e2; clear e1 e2 e3 e4)
            | go_in)
          have HTE : Hid (Tbl (w1.setCell ⟨w.heap.size + 1 + 1, 4, none⟩ (.slice Ae (k + 1) ce)) (w.heap.size + 1 + 1) (k + 1) k X.size #[.slice An g.names.length cn, .slice At g.terms.length ct, .slice Ar g.rules.length cr, .string X] (T.addE k gv cv r)) := Tbl.pushE rfl HTU.out H1.out H2.out H3.out H4.out HR.out rfl ⟨q1, q2⟩ (let ⟨_, _, t1, _⟩ := HT.out.box; t1.lt) (fun s hs => (HT.out.fb s hs).lt) hFB q5 E1.out E3.out
          obtain ⟨vE2, vF2, a1, a2, a3, a4⟩ := HTE.out.box
          have hq2 : vF2 = vF := by
            have h5 := (a1.cell 5).symm.trans ((KB1.out.set_ 4 (.slice Ae (k + 1) ce)).cell 5)
            simpa using h5
          subst hq2
          have hbe2 : Hid ((Array.replicate (X.size + 1) (Value.bool false)).setIfInBounds X.size (Value.bool true) = (bools ((List.replicate (X.size + 1) false).set X.size true)).toArray) := by
            unfold Hid; apply Array.ext'; simp [bools, List.map_set]
          have hws : (w1.setCell ⟨w.heap.size + 1 + 1, 4, none⟩ (.slice Ae (k + 1) ce)).heap.size = w1.heap.size := by simp
          have Hws := hide hws
          have A1 := hide a1; have A2 := hide a2; have A3 := hide a3; have A4 := hide a4
          clear a1 a2 a3 a4 hws
          go_wp2_with (first
            | (at_builtin; go_must (refine wp_push _ _ rfl _ _ _ rfl (w.heap.size + 1 + 1 + 1) 59 (.slice none 0 0) 24 Try.underlying46 infoBs rfl _ _ rfl (A3.out.alloc _) (.slice (some ⟨w1.heap.size, 0, none⟩) (X.size + 1) (X.size + 1)) ⟨_, rfl, by simp⟩ rfl (by rw [fV_len X.size k]; omega) (Below.refl _ _) (by simp; omega) (by decide) ?_);
               intro vF' w2 e1 e2 e3 e4;
               have F3 : Hid ((((w1.setCell ⟨w.heap.size + 1 + 1, 4, none⟩ (.slice Ae (k + 1) ce)).alloc (.cells ((Array.replicate (X.size + 1) (Value.bool false)).setIfInBounds X.size (Value.bool true)) 4)).alloc (.cells #[.slice (some ⟨w1.heap.size, 0, none⟩) (X.size + 1) (X.size + 1)] 59)).grownBy w2 vF2.ownBlock) := e3;
               have KB2 := hide (((A1.out.alloc (.cells ((Array.replicate (X.size + 1) (Value.bool false)).setIfInBounds X.size (Value.bool true)) 4)).alloc (.cells #[.slice (some ⟨w1.heap.size, 0, none⟩) (X.size + 1) (X.size + 1)] 59)).own_grown ((A3.out.alloc _).alloc _) (by decide) F3.out);
               have fy2 := KB2.out.frozen 5;
               have cy5 : w2.cell? ⟨w.heap.size + 1 + 1, 5, none⟩ = some vF2 := KB2.out.cell 5;
               obtain ⟨Af, cf, he, -, -, -, -⟩ := id e1.form;
               rw [List.length_append, fV_len] at he;
               subst he;
               have F1 := hide e1; have F2 := hide e2; clear e1 e2 e3 e4)
            | go_in)
          have HTF : Hid (Tbl (w2.setCell ⟨w.heap.size + 1 + 1, 5, none⟩ (.slice Af (k + 1) cf)) (w.heap.size + 1 + 1) (k + 1) (k + 1) X.size #[.slice An g.names.length cn, .slice At g.terms.length ct, .slice Ar g.rules.length cr, .string X] ((T.addE k gv cv r).addF k w1.heap.size)) := Tbl.pushF rfl HTE.out A1.out A2.out A3.out A4.out Hws.out.symm hbe2.out F1.out F3.out
          have Hb2 : Hid (Below (w.heap.size + 1 + 1) W00 (w2.setCell ⟨w.heap.size + 1 + 1, 5, none⟩ (.slice Af (k + 1) cf))) := by
            have x1 := Hb.out.trans (HbU.out.mono (by omega))
            have x2 := x1.trans (E2.out.mono (by omega))
            have x3 := Below.set x2 (w.heap.size + 1 + 1) 4 (Nat.le_refl _) (.slice Ae (k + 1) ce)
            have x4 := x3.alloc (by have := x3.size; omega) (.cells ((Array.replicate (X.size + 1) (Value.bool false)).setIfInBounds X.size (Value.bool true)) 4)
            exact Below.set (x4.trans (F2.out.mono (by omega))) (w.heap.size + 1 + 1) 5 (Nat.le_refl _) _
          go_roundw
          case rel => exact ⟨_, rfl, Hb2.out, k + 1, _, by omega, by go_num, HTF.out⟩
          case measure => simp [intOf]; omega
      --skip>
    · obtain rfl : k = g.names.length := by omega
      obtain ⟨T', hF⟩ := hT.fix hn1
      have HF0 := hide hF
      have hS0 := hide (Snd.start (rs := g.rules) (wl := X.data.toList) HP.out)
      have Hb := hide hb
      have hXl : X.data.toList.length = X.size := by simp
      rw [hXl] at hS0
      have HXl := hide hXl
      clear hT hF hb hXl hmk
      go_wp2_with fail
      go_loopg [10] (2 * fls g.names.length X.size (fun _ _ _ => false) (fun _ q => decide (q = X.size)) + 1) (fun gk b V => ∃ W, W = V ∧ Below (w.heap.size + 1 + 1) W00 W ∧ ∃ (E : Nat → Nat → Nat → Bool) (F : Nat → Nat → Bool) (mo : Bool), b = .bool mo ∧ Fix20 W (w.heap.size + 1 + 1) g.names.length X.size #[.slice An g.names.length cn, .slice At g.terms.length ct, .slice Ar g.rules.length cr, .string X] T' E F ∧ Snd g.rules X.data.toList g.names.length E F ∧ gk = 2 * fls g.names.length X.size E F + (if mo then 1 else 0) ∧ (mo = false → Cls g.rules X.data.toList E F))
      case atStart => exact ⟨_, rfl, Hb.out, _, _, true, rfl, HF0.out, hS0.out, rfl, fun h => by cases h⟩
      case round =>
        clear HF0 hS0 Hb cG
        obtain ⟨W1, rfl, hb, E, F, mo, rfl, hF, hS, hgk, hC⟩ := hrel
        have cG := fun i => (hb.cell (p := ⟨w.heap.size, i, none⟩) (by show w.heap.size < _; omega)).trans (HG0.out i)
        cases mo with
        | false =>
          --<skip
          have HC := hide (hC rfl)
          have d0 : W1.cell? ⟨w.heap.size + 1 + 1, 0, none⟩ = some (.slice An g.names.length cn) := hF.box.cell 0
          have d1 : W1.cell? ⟨w.heap.size + 1 + 1, 1, none⟩ = some (.slice At g.terms.length ct) := hF.box.cell 1
          have d2 : W1.cell? ⟨w.heap.size + 1 + 1, 2, none⟩ = some (.slice Ar g.rules.length cr) := hF.box.cell 2
          have d3 : W1.cell? ⟨w.heap.size + 1 + 1, 3, none⟩ = some (.string X) := hF.box.cell 3
          have d4 : W1.cell? ⟨w.heap.size + 1 + 1, 4, none⟩ = some (.slice (some ⟨T'.eb, 0, none⟩) g.names.length T'.ec) := hF.box.cell 4
          have d5 : W1.cell? ⟨w.heap.size + 1 + 1, 5, none⟩ = some (.slice (some ⟨T'.fb, 0, none⟩) g.names.length T'.fc) := hF.box.cell 5
          have hR1 : Blk W1 (w.heap.size + 1) 48 #[.slice none 0 0, .slice none 0 0, .slice none 0 0, .string ⟨#[]⟩, .slice none 0 0, .slice none 0 0] := HR0.out.below hb (by omega)
          have r0 : W1.cell? ⟨w.heap.size + 1, 0, none⟩ = some (.slice none 0 0) := hR1.cell 0
          have r1 : W1.cell? ⟨w.heap.size + 1, 1, none⟩ = some (.slice none 0 0) := hR1.cell 1
          have r2 : W1.cell? ⟨w.heap.size + 1, 2, none⟩ = some (.slice none 0 0) := hR1.cell 2
          have r3 : W1.cell? ⟨w.heap.size + 1, 3, none⟩ = some (.string ⟨#[]⟩) := hR1.cell 3
          have r4 : W1.cell? ⟨w.heap.size + 1, 4, none⟩ = some (.slice none 0 0) := hR1.cell 4
          have r5 : W1.cell? ⟨w.heap.size + 1, 5, none⟩ = some (.slice none 0 0) := hR1.cell 5
          have z0 := hR1.frozen 0; have z1 := hR1.frozen 1; have z2 := hR1.frozen 2; have z3 := hR1.frozen 3; have z4 := hR1.frozen 4; have z5 := hR1.frozen 5
          have HF := hide hF; have HR1 := hide hR1; have HS := hide hS; have Hb := hide hb
          clear hC hF hR1 hS hb
          go_wp2_with fail
          have k0 := HF.out.far HR1.out (by omega) 0 (.slice An g.names.length cn)
          have k1 := k0.far (HR1.out.set_ 0 _) (by omega) 1 (.slice At g.terms.length ct)
          have k2 := k1.far ((HR1.out.set_ 0 _).set_ 1 _) (by omega) 2 (.slice Ar g.rules.length cr)
          have k3 := k2.far (((HR1.out.set_ 0 _).set_ 1 _).set_ 2 _) (by omega) 3 (.string X)
          have k4 := k3.far ((((HR1.out.set_ 0 _).set_ 1 _).set_ 2 _).set_ 3 _) (by omega) 4 (.slice (some ⟨T'.eb, 0, none⟩) g.names.length T'.ec)
          have k5 := k4.far (((((HR1.out.set_ 0 _).set_ 1 _).set_ 2 _).set_ 3 _).set_ 4 _) (by omega) 5 (.slice (some ⟨T'.fb, 0, none⟩) g.names.length T'.fc)
          have hbw : Below w.heap.size w W1 := (HW00' HW00.out).trans (Hb.out.mono (by omega))
          refine bodyPost_ret (v := .agg #[.slice An g.names.length cn, .slice At g.terms.length ct, .slice Ar g.rules.length cr, .string X, .slice (some ⟨T'.eb, 0, none⟩) g.names.length T'.ec, .slice (some ⟨T'.fb, 0, none⟩) g.names.length T'.fc]) (by simp [results, Try.results27, go_sem, z0, z1, z2, z3, z4, z5, r0, r1, r2, r3, r4, r5]) rfl ⟨⟨T', E, F, rfl, ⟨_, _, by omega, k5⟩, HS.out, HC.out⟩, ?_⟩
          exact Below.set (Below.set (Below.set (Below.set (Below.set (Below.set hbw _ _ (by omega) _) _ _ (by omega) _) _ _ (by omega) _) _ _ (by omega) _) _ _ (by omega) _) _ _ (by omega) _
          --skip>
        | true =>
          have HF := hide hF; have HS := hide hS; have Hb := hide hb
          clear hF hS hb hC
          go_wp2_with fail
          have hfx0 := HXl.out
          go_loopw [10, 11] (fun b y V => ∃ U, U = V ∧ Below (w.heap.size + 1 + 1) W00 U ∧ ∃ (E1 : Nat → Nat → Nat → Bool) (F1 : Nat → Nat → Bool) (mo : Bool) (i : Nat), i ≤ g.rules.length ∧ b = .bool mo ∧ y = .int .i64 i ∧ Fix20 U (w.heap.size + 1 + 1) g.names.length X.size #[.slice An g.names.length cn, .slice At g.terms.length ct, .slice Ar g.rules.length cr, .string X] T' E1 F1 ∧ Snd g.rules X.data.toList g.names.length E1 F1 ∧ Pr20 g.names.length X.size E F E1 F1 mo (ClsI g.rules X.data.toList E F i)) (fun _ y _ => g.rules.length - (intOf y).toNat)
          case atStart => exact ⟨_, rfl, Hb.out, E, F, false, 0, by omega, rfl, rfl, HF.out, HS.out, .inr ⟨rfl, rfl, rfl, fun j hj h => by omega⟩⟩
          case round =>
            clear HF HS Hb cG
            obtain ⟨U, rfl, hb, E1, F1, mo, i, hi, rfl, rfl, hF, hS, hPr⟩ := hrel
            have cG := fun i => (hb.cell (p := ⟨w.heap.size, i, none⟩) (by show w.heap.size < _; omega)).trans (HG0.out i)
            by_cases hlt : i < g.rules.length
            · have hwU : Below w.heap.size w U := (HW00' HW00.out).trans (hb.mono (by omega))
              obtain ⟨rb, off, rfl, hrb, C, c, k1, k2, k3, k4⟩ := HG.out.r.at_ hlt
              have c1 := (hwU.cell hrb).trans k1
              have c2 := (hwU.cell hrb).trans k2
              obtain ⟨f1, f2, f3, f4⟩ := HV.out.ru _ (List.getElem_mem hlt)
              obtain ⟨a, ha⟩ := Int.eq_ofNat_of_zero_le f1
              have han : a < g.names.length := by omega
              rw [ha] at c1
              have Ha := hide ha
              have Hat : Hid (g.rules[i].left.toNat = a) := by unfold Hid; omega
              have HC := hide k4
              have Hf4 := hide f4
              have HF := hide hF; have HS := hide hS; have Hb := hide hb; have HPr := hide hPr; have K1 := hide k1; have K2 := hide k2
              clear hF hS hb hPr k1 k2 k4 f1 f2 f4 hwU
              go_wp2_with fail
              clear c1 c2 cG
              go_loopw [10, 13] (fun b y V => ∃ U2, U2 = V ∧ Below (w.heap.size + 1 + 1) W00 U2 ∧ ∃ (E2 : Nat → Nat → Nat → Bool) (F2 : Nat → Nat → Bool) (mo : Bool) (p : Nat), p ≤ X.size + 1 ∧ b = .bool mo ∧ y = .int .i64 p ∧ Fix20 U2 (w.heap.size + 1 + 1) g.names.length X.size #[.slice An g.names.length cn, .slice At g.terms.length ct, .slice (some ⟨rb, off, none⟩) g.rules.length cr, .string X] T' E2 F2 ∧ Snd g.rules X.data.toList g.names.length E2 F2 ∧ Pr20 g.names.length X.size E F E2 F2 mo (ClsI g.rules X.data.toList E F i ∧ ClsR X.data.toList E F g.rules[i] p)) (fun _ y _ => X.size + 1 - (intOf y).toNat)
              case atStart => exact ⟨_, rfl, Hb.out, E1, F1, mo, 0, by omega, rfl, rfl, HF.out, HS.out, HPr.out.mono fun _ _ h => ⟨h, fun p hp => by omega⟩⟩
              case round =>
                clear HF HS Hb HPr
                obtain ⟨U2, rfl, hb, E2, F2, mo, p, hp, rfl, rfl, hF, hS, hPr⟩ := hrel
                have cG := fun i => (hb.cell (p := ⟨w.heap.size, i, none⟩) (by show w.heap.size < _; omega)).trans (HG0.out i)
                have hwU : Below w.heap.size w U2 := (HW00' HW00.out).trans (hb.mono (by omega))
                by_cases hpx : p ≤ X.size
                · have c1 := (hwU.cell hrb).trans K1.out
                  have c2 := (hwU.cell hrb).trans K2.out
                  have d0 : U2.cell? ⟨w.heap.size + 1 + 1, 0, none⟩ = some (.slice An g.names.length cn) := hF.box.cell 0
                  have d1 : U2.cell? ⟨w.heap.size + 1 + 1, 1, none⟩ = some (.slice At g.terms.length ct) := hF.box.cell 1
                  have d2 : U2.cell? ⟨w.heap.size + 1 + 1, 2, none⟩ = some (.slice (some ⟨rb, off, none⟩) g.rules.length cr) := hF.box.cell 2
                  have d3 : U2.cell? ⟨w.heap.size + 1 + 1, 3, none⟩ = some (.string X) := hF.box.cell 3
                  have d4 : U2.cell? ⟨w.heap.size + 1 + 1, 4, none⟩ = some (.slice (some ⟨T'.eb, 0, none⟩) g.names.length T'.ec) := hF.box.cell 4
                  have d5 : U2.cell? ⟨w.heap.size + 1 + 1, 5, none⟩ = some (.slice (some ⟨T'.fb, 0, none⟩) g.names.length T'.fc) := hF.box.cell 5
                  have hEn : Hid (∀ W' : World, W'.heap = U2.heap → Calls Try.prog 73 #[.agg #[.slice An g.names.length cn, .slice At g.terms.length ct, .slice (some ⟨rb, off, none⟩) g.rules.length cr, .string X, .slice (some ⟨T'.eb, 0, none⟩) g.names.length T'.ec, .slice (some ⟨T'.fb, 0, none⟩) g.names.length T'.fc], .slice C g.rules[i].right.length c, .int .i64 p] W' fun e w' =>
                      (∃ b R, e = .returned (.slice (some ⟨b, 0, none⟩) (X.size + 1) (X.size + 1)) ∧ W'.heap.size ≤ b ∧ BB w' b R ∧ R.length = X.size + 1 ∧ ∀ q, q ≤ X.size → (R.getD q false = true ↔ Path X.data.toList E2 g.rules[i].right p q)) ∧ Below W'.heap.size W' w') := fun W' hW' =>
                    ends_any _ _ _ X T' g.names.length E2 F2 C c g.rules[i].right p W' (hF.heap hW').tab hX (((HC.out.below hwU).heap hW').more (by rw [hW']; exact hwU.size)) k3 (by omega) (fun s hs => by have := Hf4.out s hs; omega) hF.ca.1 hF.ca.2.1 hpx
                  have HF := hide hF; have HS := hide hS; have Hb := hide hb; have HPr := hide hPr; have HwU := hide hwU
                  clear hF hS hb hPr hwU
                  go_upto_region 24 with fail
                  go_cut [14] (fun v V => ∃ U3, U3 = V ∧ Below U2.heap.size U2 U3 ∧ ∃ (eb : Nat) (R : List Bool), v = .slice (some ⟨eb, 0, none⟩) (X.size + 1) (X.size + 1) ∧ U2.heap.size ≤ eb ∧ BB U3 eb R ∧ R.length = X.size + 1 ∧ Hid (∀ q, q ≤ X.size → (R.getD q false = true ↔ Path X.data.toList E2 g.rules[i].right p q)))
                  case first =>
                    go_region_with (go_at_call 73; refine (hEn.out (World.drew _) rfl).mono ?_; rintro e U3 ⟨⟨eb, R, rfl, heb, hR, hRl, hsp⟩, hbw⟩; have Hsp := hide hsp; have HR := hide hR; have Hbw := hide hbw; clear hsp hR hbw)
                    all_goals
                      go_wp2_with fail
                      go_meet
                      exact ⟨_, rfl, below_pre Hbw.out rfl rfl rfl rfl, eb, R, rfl, heb, HR.out, hRl, Hsp.out⟩
                  case rest =>
                    obtain ⟨U3, rfl, hbw, eb, R, rfl, heb, hR, hRl, hsp⟩ := hcut
                    have HFa := HF
                    have HF := hide (HFa.out.below hbw)
                    have Hbw := hide hbw
                    have Hb3 := hide (Hb.out.trans (hbw.mono (by have := Hb.out.size; have : w.heap.size + 1 + 1 ≤ W00.heap.size := h00; omega)))
                    have HR := hide hR; have Hsp := hsp
                    have hU3 := hR.lt
                    have hr2 := (HFa.out.bb a han p hpx).lt
                    have hfr := (HFa.out.fb a han).lt
                    have hlo := HFa.out.lo a han p hpx
                    have Hend : Hid (∀ q, q ≤ X.size → Path X.data.toList E2 g.rules[i].right p q → p ≤ q ∧ Der g.rules [(a : Int)] (seg X.data.toList p q)) := fun q hq hpath => by
                      have := HS.out.ends (List.getElem_mem hlt) (by omega) (fun s hs => (Hf4.out s hs).1) (by rw [HXl.out]; exact hpx) (by rw [HXl.out]; exact hq) hpath
                      rwa [Hat.out] at this
                    clear hbw hR hsp Hb c1 c2 d0 d1 d2 d3 d4 d5 cG
                    go_wp2_with fail
                    go_loopw [10, 15] (fun b y V => ∃ U4, U4 = V ∧ Below (w.heap.size + 1 + 1) W00 U4 ∧ ∃ (E3 : Nat → Nat → Nat → Bool) (mo : Bool) (q : Nat), q ≤ X.size + 1 ∧ b = .bool mo ∧ y = .int .i64 q ∧ U2.heap.size ≤ U4.heap.size ∧ BB U4 eb R ∧ Fix20 U4 (w.heap.size + 1 + 1) g.names.length X.size #[.slice An g.names.length cn, .slice At g.terms.length ct, .slice (some ⟨rb, off, none⟩) g.rules.length cr, .string X] T' E3 F2 ∧ Snd g.rules X.data.toList g.names.length E3 F2 ∧ Pr20 g.names.length X.size E F E3 F2 mo ((ClsI g.rules X.data.toList E F i ∧ ClsR X.data.toList E F g.rules[i] p) ∧ E2 = E ∧ ∀ q', q' < q → Path X.data.toList E g.rules[i].right p q' → E a p q' = true)) (fun _ y _ => X.size + 1 - (intOf y).toNat)
                    case atStart => exact ⟨_, rfl, Hb3.out, E2, mo, 0, by omega, rfl, rfl, by have := Hbw.out.size; omega, HR.out, HF.out, HS.out, HPr.out.mono fun h1 _ h => ⟨h, h1, fun q hq => by omega⟩⟩
                    case round =>
                      clear HF HPr Hb3 HR hU3
                      obtain ⟨U4, rfl, hb, E3, mo3, q, hq, rfl, rfl, hU4, hR, hF, hS3, hPr⟩ := hrel
                      by_cases hqx : q ≤ X.size
                      · have eR := hR.at_ q (by omega)
                        have hl0 := hR.lt
                        have d4 : U4.cell? ⟨w.heap.size + 1 + 1, 4, none⟩ = some (.slice (some ⟨T'.eb, 0, none⟩) g.names.length T'.ec) := hF.box.cell 4
                        have x0 := hF.tab.e0 a han
                        have x1 := hF.tab.e1 a han p hpx
                        have x2 := hF.tab.e2 a han p hpx q hqx
                        have fz := (hF.bb a han p hpx).frozen q
                        have hcs := hF.c1 a han
                        have hca := hF.ca
                        have hne : eb ≠ T'.r2 a p := by omega
                        have HF := hide hF; have HS3 := hide hS3; have HPr := hide hPr; have HR := hide hR; have Hb := hide hb
                        clear hF hS3 hPr hR hb
                        cases hr : R.getD q false with
                        | false =>
                          rw [hr] at eR
                          have Hr := hide hr
                          clear hr
                          go_wp2_with fail
                          go_roundw
                          case rel => exact ⟨_, rfl, Hb.out, E3, mo3, q + 1, by omega, rfl, by go_num, hU4, HR.out, HF.out, HS3.out, HPr.out.mono fun _ _ h => ⟨h.1, h.2.1, fun q' hq' hpath => by
                            by_cases e : q' = q
                            · subst e
                              rw [← h.2.1] at hpath
                              have := (Hsp.out q' hqx).2 hpath
                              rw [Hr.out] at this; cases this
                            · exact h.2.2 q' (by omega) hpath⟩⟩
                          case measure => simp [intOf]; omega
                        | true =>
                          rw [hr] at eR
                          have Hr := hide hr
                          clear hr
                          cases he : E3 a p q with
                          | true =>
                            rw [he] at x2
                            have He := hide he
                            clear he
                            go_wp2_with fail
                            go_roundw
                            case rel => exact ⟨_, rfl, Hb.out, E3, mo3, q + 1, by omega, rfl, by go_num, hU4, HR.out, HF.out, HS3.out, HPr.out.mono fun h1 _ h => ⟨h.1, h.2.1, fun q' hq' hpath => by
                              by_cases e : q' = q
                              · subst e
                                rw [← h1]; exact He.out
                              · exact h.2.2 q' (by omega) hpath⟩⟩
                            case measure => simp [intOf]; omega
                          | false =>
                            rw [he] at x2
                            have He := hide he
                            clear he
                            go_wp2_with fail
                            go_roundw
                            case rel => exact ⟨_, rfl, Below.set Hb.out _ _ (by omega) _, updE E3 a p q, true, q + 1, by omega, rfl, by go_num, by simpa using hU4, Blk.far HR.out hne _, HF.out.setE han hpx q, HS3.out.setE (Hend.out q hqx ((Hsp.out q hqx).1 Hr.out)), HPr.out.setE han hpx hqx He.out⟩
                            case measure => simp [intOf]; omega
                      · obtain rfl : q = X.size + 1 := by omega
                        have d0 : U4.cell? ⟨w.heap.size + 1 + 1, 0, none⟩ = some (.slice An g.names.length cn) := hF.box.cell 0
                        have d1 : U4.cell? ⟨w.heap.size + 1 + 1, 1, none⟩ = some (.slice At g.terms.length ct) := hF.box.cell 1
                        have d2 : U4.cell? ⟨w.heap.size + 1 + 1, 2, none⟩ = some (.slice (some ⟨rb, off, none⟩) g.rules.length cr) := hF.box.cell 2
                        have d3 : U4.cell? ⟨w.heap.size + 1 + 1, 3, none⟩ = some (.string X) := hF.box.cell 3
                        have d4 : U4.cell? ⟨w.heap.size + 1 + 1, 4, none⟩ = some (.slice (some ⟨T'.eb, 0, none⟩) g.names.length T'.ec) := hF.box.cell 4
                        have d5 : U4.cell? ⟨w.heap.size + 1 + 1, 5, none⟩ = some (.slice (some ⟨T'.fb, 0, none⟩) g.names.length T'.fc) := hF.box.cell 5
                        have x0 := hF.tab.f0 a han
                        have x1 := hF.tab.f1 a han p hpx
                        have hca := hF.ca
                        have hwU4 : Below w.heap.size w U4 := (HW00' HW00.out).trans (hb.mono (by omega))
                        have c1 := (hwU4.cell hrb).trans K1.out
                        have c2 := (hwU4.cell hrb).trans K2.out
                        have cG := fun i => (hb.cell (p := ⟨w.heap.size, i, none⟩) (by show w.heap.size < _; omega)).trans (HG0.out i)
                        have hBe : Hid (∀ W' : World, W'.heap = U4.heap → Calls Try.prog 74 #[.agg #[.slice An g.names.length cn, .slice At g.terms.length ct, .slice (some ⟨rb, off, none⟩) g.rules.length cr, .string X, .slice (some ⟨T'.eb, 0, none⟩) g.names.length T'.ec, .slice (some ⟨T'.fb, 0, none⟩) g.names.length T'.fc], .slice C g.rules[i].right.length c, .int .i64 p] W' fun e w' =>
                            e = .returned (.bool (bool (BegP X.data.toList E3 F2 g.rules[i].right p))) ∧ Below W'.heap.size W' w') := fun W' hW' =>
                          begins_any _ _ _ X T' g.names.length E3 F2 C c g.rules[i].right p W' (hF.heap hW').tab hX (((HC.out.below hwU4).heap hW').more (by rw [hW']; exact hwU4.size)) k3 (by omega) (fun s hs => by have := Hf4.out s hs; omega) hF.ca.1 hF.ca.2.1 hF.ca.2.2.1 hF.ca.2.2.2 hpx
                        have Hbeg : Hid (BegP X.data.toList E3 F2 g.rules[i].right p → ∃ y, Der g.rules [(a : Int)] (X.data.toList.drop p ++ y)) := fun hbeg => by
                          have := hS3.begs (List.getElem_mem hlt) (by omega) (n := g.names.length) (fun s hs => ⟨by have := (Hf4.out s hs).2; have := HV.out.sy; omega, (Hf4.out s hs).1, fun h0 => by
                            have := HP.out s.toNat (by have := (Hf4.out s hs).1; omega)
                            rwa [Int.toNat_of_nonneg h0] at this⟩) (by rw [HXl.out]; exact hpx) hbeg
                          rwa [Hat.out] at this
                        have HF := hide hF; have HS3 := hide hS3; have HPr := hide hPr; have Hb := hide hb
                        clear hF hS3 hPr hR hb hwU4
                        cases hf : F2 a p with
                        | true =>
                          rw [hf] at x1
                          have Hf := hide hf
                          clear hf hBe
                          go_wp2_with (go_quiet (fail))
                          go_roundw
                          case rel => exact ⟨_, rfl, bdrew Hb.out _, E3, F2, mo3, p + 1, by omega, rfl, by go_num, HF.out.heap rfl, HS3.out, HPr.out.mono fun h1 h2 h => ⟨h.1.1, h.1.2.next (fun q hq hpath => by rw [Hat.out]; exact h.2.2 q (by have := HXl.out; omega) hpath) (fun _ => by rw [Hat.out, ← h2]; exact Hf.out)⟩⟩
                          case measure => simp [intOf]; omega
                        | false =>
                          rw [hf] at x1
                          have Hf := hide hf
                          clear hf
                          by_cases hB : BegP X.data.toList E3 F2 g.rules[i].right p
                          · rw [bool_true hB] at hBe
                            have HB := hide hB
                            clear hB
                            go_wp2_with fail
                            go_cut [141] (fun v V => ∃ U5, U5 = V ∧ Below U4.heap.size U4 U5 ∧ v = .bool true)
                            case first =>
                              go_region_with (go_at_call 74; refine (hBe.out (World.drew _) rfl).mono ?_; rintro e U5 ⟨rfl, hbw⟩; have Hbw := hide hbw; clear hbw)
                              all_goals
                                go_wp2_with fail
                                go_meet
                                exact ⟨_, rfl, below_pre Hbw.out rfl rfl rfl rfl, rfl⟩
                            case rest =>
                              obtain ⟨U5, rfl, hbw, rfl⟩ := hcut
                              have hF5 := HF.out.below hbw
                              have d5' : U5.cell? ⟨w.heap.size + 1 + 1, 5, none⟩ = some (.slice (some ⟨T'.fb, 0, none⟩) g.names.length T'.fc) := hF5.box.cell 5
                              have y0 := hF5.tab.f0 a han
                              have y1 := hF5.tab.f1 a han p hpx
                              have fz := (hF5.fb a han).frozen p
                              have hlo2 := HF.out.o2 a han p hpx
                              have hlo3 := HF.out.lo a han p hpx
                              have HF5 := hide hF5
                              have Hb5 := hide (Hb.out.trans (hbw.mono (by have := Hb.out.size; omega)))
                              clear hF5 hbw d0 d1 d2 d3 d4 d5 x0 x1 c1 c2 cG hBe
                              go_wp2_with fail
                              go_roundw
                              case rel => exact ⟨_, rfl, Below.set Hb5.out _ _ (by omega) _, E3, updF F2 a p, true, p + 1, by omega, rfl, by go_num, HF5.out.setF han p, HS3.out.setF (Hbeg.out HB.out), HPr.out.setF han hpx Hf.out⟩
                              case measure => simp [intOf]; omega
                          · rw [bool_false hB] at hBe
                            have HB := hide hB
                            clear hB
                            go_wp2_with fail
                            go_cut [141] (fun v V => ∃ U5, U5 = V ∧ Below U4.heap.size U4 U5 ∧ v = .bool false)
                            case first =>
                              go_region_with (go_at_call 74; refine (hBe.out (World.drew _) rfl).mono ?_; rintro e U5 ⟨rfl, hbw⟩; have Hbw := hide hbw; clear hbw)
                              all_goals
                                go_wp2_with fail
                                go_meet
                                exact ⟨_, rfl, below_pre Hbw.out rfl rfl rfl rfl, rfl⟩
                            case rest =>
                              obtain ⟨U5, rfl, hbw, rfl⟩ := hcut
                              have HF5 := hide (HF.out.below hbw)
                              have Hb5 := hide (Hb.out.trans (hbw.mono (by have := Hb.out.size; omega)))
                              clear hbw d0 d1 d2 d3 d4 d5 x0 x1 c1 c2 cG hBe
                              go_wp2_with fail
                              go_roundw
                              case rel => exact ⟨_, rfl, Hb5.out, E3, F2, mo3, p + 1, by omega, rfl, by go_num, HF5.out, HS3.out, HPr.out.mono fun h1 h2 h => ⟨h.1.1, h.1.2.next (fun q hq hpath => by rw [Hat.out]; exact h.2.2 q (by have := HXl.out; omega) hpath) (fun hb => by rw [← h1, ← h2] at hb; exact absurd hb HB.out)⟩⟩
                              case measure => simp [intOf]; omega
                · obtain rfl : p = X.size + 1 := by omega
                  have HF := hide hF; have HS2 := hide hS; have HPr := hide hPr; have Hb := hide hb
                  clear hF hS hPr hb hwU cG
                  go_wp2_with fail
                  go_roundw
                  case rel => exact ⟨_, rfl, Hb.out, E2, F2, mo, i + 1, by omega, rfl, by go_num, HF.out, HS2.out, HPr.out.mono fun _ _ h => h.1.next hlt (by rw [HXl.out]; exact h.2)⟩
                  case measure => simp [intOf]; omega
            · obtain rfl : i = g.rules.length := by omega
              have HF := hide hF; have HS2 := hide hS; have HPr := hide hPr; have Hb := hide hb
              clear hF hS hPr hb
              go_wp2_with fail
              go_roundg (2 * fls g.names.length X.size E1 F1 + (if mo then 1 else 0))
              case rel => exact ⟨_, rfl, Hb.out, E1, F1, mo, rfl, HF.out, HS2.out, rfl, fun h => by
                rcases HPr.out with ⟨a, _⟩ | ⟨_, h1, h2, h3⟩
                · rw [a] at h; cases h
                · rw [h1, h2]; exact h3.cls⟩
              case measure =>
                have hP := HPr.out
                rcases hP with ⟨a, b⟩ | ⟨a, h1, h2, _⟩
                · subst a; simp; omega
                · subst a; rw [h1, h2]; simp at hgk ⊢; omega
end Go.Proofs.Ythpjjlmgdalpaaa
