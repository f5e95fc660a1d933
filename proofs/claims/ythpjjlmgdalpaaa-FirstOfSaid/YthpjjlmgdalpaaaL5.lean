/- FirstOf: the walk where the sets are asked for. -/
import Derived.Test.YthpjjlmgdalpaaaL4
import Derived.Deep.RegionHeld3
namespace Go.Proofs.Ythpjjlmgdalpaaa
open Go.RowKit

theorem ofF_nodup {k : Nat} {L : LS} : ∀ (syms : List Int) (out res : List (List UInt8)), out.Nodup → ofF k L syms out = some res → res.Nodup := by
  intro syms
  induction syms with
  | nil => intro out res h e; injection e with e; subst e; exact h
  | cons s r ih =>
    intro out res _ e
    unfold ofF at e
    split at e
    · cases e
    · split at e
      · exact ih _ _ (asc_nodup (srt_asc _)) e
      · cases e

theorem filt_snoc {α : Type} (l : List α) (p : α → Bool) (j : Nat) (h : j < l.length) : ((l.take (j + 1)).filter p).length = ((l.take j).filter p).length + (if p l[j] = true then 1 else 0) := by
  rw [List.take_succ_eq_append_getElem h, List.filter_append, List.length_append]
  congr 1
  by_cases hp : p l[j] = true
  · rw [if_pos hp, List.filter_cons_of_pos hp]; rfl
  · rw [if_neg hp, List.filter_cons_of_neg hp]; rfl

set_option maxHeartbeats 2000000 in
set_option maxRecDepth 20000 in
theorem firstof_main (v : GV) (g : G) (k : Nat) (A : Option Addr) (c : Nat) (syms : List Int) (w : World) (hg : GAt w w.heap.size v g) (hA : SlAt w w.heap.size A (ints syms)) (hcc : syms.length ≤ c) (hcm : c ≤ 9223372036854775807) (hW64 : Wide64 syms) (hf : fewB g = true) (h3 : g.terms.length ≤ 3) (h6 : syms.length ≤ 6) (hk1 : 1 ≤ k) (hk4 : k ≤ 4) (hw : WM g) :
    Calls Try.prog 6 #[.agg #[.slice v.An g.names.length v.cn, .slice v.At g.terms.length v.ct, .slice v.Ar g.rules.length v.cr], .int .i64 k, .slice A syms.length c] w fun e w' => e = .returned (.bool true) ∧ Below w.heap.size w w' := by
  have Hb0 := hide (Bx.self (w := w) (cs := #[.slice v.An g.names.length v.cn, .slice v.At g.terms.length v.ct, .slice v.Ar g.rules.length v.cr]) (T := 25))
  have HF := hide (few_any v g _ (hg.bx Hb0.out))
  have ht := hg.ht
  have hn := hg.hn
  have hl := few_le hf
  have HG := hide hg
  have HW := hide hw
  have H1 := hide hf
  have HA := hide hA
  have Hw64 := hide hW64
  have hsm : g.names.length ≤ 1000000 ∧ g.terms.length ≤ 1000000 := by omega
  have hall := allW_small g.terms.length (by omega) k (by omega)
  have hn1 := hw.vg.n1
  have HS := hide (fun W (hW : Bx w #[.slice v.An g.names.length v.cn, .slice v.At g.terms.length v.ct, .slice v.Ar g.rules.length v.cr] 25 W) => fsets_good v g k W (hg.bx hW) hw hk1 hk4 h3)
  have HC : Hid (∀ W, Bx w #[.slice v.An g.names.length v.cn, .slice v.At g.terms.length v.ct, .slice v.Ar g.rules.length v.cr] 25 W → Calls Try.prog 21 #[.agg #[.slice v.An g.names.length v.cn, .slice v.At g.terms.length v.ct, .slice v.Ar g.rules.length v.cr]] W fun e w' => e = .returned (.int .i64 0) ∧ Below W.heap.size W w') := fun W hW =>
    (check15_any v g W (hg.bx hW) hsm).mono fun e w' ⟨⟨n, h1, h2⟩, h3⟩ => ⟨by rw [h1, h2.2 hw], h3⟩
  have HAll := hide (fun W => all18_any g.terms.length k W (by omega) (by omega) (by omega))
  have Hnd := hide hall.1
  have hal := hall.2
  clear hg hf hw hall hA hW64
  obtain ⟨An, cn, At, ct, Ar, cr⟩ := v
  dsimp only at Hb0 HF ht hn HG HS HC
  go_enter Try.func6, Try.ntmps6
  go_wp2_with (first
    | (go_at_call 15; refine HF.out.mono ?_; rintro e w1 ⟨rfl, hb1⟩; rw [if_pos H1.out]; have Hb1 := hide (Hb0.out.call hb1); have cG := Hb1.out.cell; clear hb1)
    | (go_at_call 21; refine (HC.out _ Hb1.out).mono ?_; rintro e w4 ⟨rfl, hb4⟩; have Hb4 := hide (Hb1.out.call hb4); have cG4 := Hb4.out.cell; clear hb4)
    | (go_at_call 25; refine (HS.out _ Hb4.out).mono ?_; rintro e w2 ⟨⟨b, L, rfl, hSS, hSz, hgood⟩, hb2⟩; have HSS := hide hSS; have HSz := hide hSz; have HGood := hide hgood; have Hb2 := hide (Hb4.out.call hb2); have cG2 := Hb2.out.cell; clear hSS hSz hgood hb2)
    )
  all_goals first | (exfalso; omega) | skip
  have HA2 : Hid (∀ W, Below w2.heap.size w2 W → SlAt W W.heap.size A (ints syms)) := fun W hW => ((HA.out.below Hb2.out.below).more Hb2.out.below.size).below hW |>.more hW.size
  have HOf : Hid (∀ W, Below w2.heap.size w2 W → Calls Try.prog 30 #[.slice (some ⟨b, 0, none⟩) g.names.length g.names.length, .int .i64 k, .slice A syms.length c] W (OfPost W (ofF k L syms [[]]))) := fun W hW => by
    rw [← HGood.out.len]
    exact fof_wide k (by omega) b L A c syms W (HSS.out.below hW) (by rw [HGood.out.len]; omega) HSz.out (HA2.out W hW) hcc (by omega) Hw64.out
  have wt : IntKind.i64.wrap (-(g.terms.length : Int)) = -(g.terms.length : Int) := IntWalk.i64_in _ (by omega)
  go_loopw [9] (fun y V => ∃ W, W = V ∧ Below w2.heap.size w2 W ∧ ∃ i : Nat, i ≤ syms.length ∧ y = .int .i64 i ∧ Hid (∀ j (h : j < syms.length), j < i → -(g.terms.length : Int) ≤ syms[j] ∧ syms[j] < g.names.length)) (fun y _ => syms.length - (intOf y).toNat)
  case atStart => exact ⟨_, rfl, Below.refl _ _, 0, by omega, rfl, fun j _ h => by omega⟩
  case round =>
    clear cG cG4 cG2
    obtain ⟨W, rfl, hbW, i, hi, rfl, hrange⟩ := hrel
    have hbx := Hb2.out.call hbW
    have cG := hbx.cell
    by_cases hlt : i < syms.length
    · obtain ⟨b', off, rfl, hbb, hcs⟩ := (HA2.out W hbW).at_ (k := i) (by simpa using hlt)
      have c1 := hcs i _ (ints_at syms i hlt)
      obtain ⟨s, hs⟩ : ∃ s, s = syms[i] := ⟨_, rfl⟩
      rw [← hs] at c1
      have Hs := hide hs
      have hsw := Hw64.out s (by rw [hs]; exact List.getElem_mem hlt)
      have Hbx := hide hbx; have HbW := hide hbW
      have hWs := hbW.size
      clear hcs hs hbx hbW
      by_cases hbad : (g.names.length : Int) ≤ s ∨ s < -(g.terms.length : Int)
      · by_cases hin : s < 0 ∧ -256 ≤ s
        · obtain ⟨hin1, hin2⟩ := hin
          have hd1 : decide ((g.names.length : Int) ≤ s) = false := decide_eq_false (by omega)
          have hd2 : decide (s < -(g.terms.length : Int)) = true := decide_eq_true (by omega)
          have hd3 : decide (s < 0) = true := decide_eq_true hin1
          have hd4 : decide (-256 ≤ s) = true := decide_eq_true hin2
          cases hr : ofF k L syms [[]] with
          | none =>
            have HOf2 : Hid (∀ W, Below w2.heap.size w2 W → Calls Try.prog 30 #[.slice (some ⟨b, 0, none⟩) g.names.length g.names.length, .int .i64 k, .slice (some ⟨b', off, none⟩) syms.length c] W fun e w' => e = .returned (.tuple #[.slice none 0 0, .bool false]) ∧ Below W.heap.size W w') := fun W hW => by
              have := HOf.out W hW
              rw [hr] at this
              exact this
            clear hr HOf
            go_wp2_with (first
              | (go_at_call 30; refine (HOf2.out _ (bdrew HbW.out _)).mono ?_; rintro e U ⟨rfl, hbU⟩; have c2 : U.cell? ⟨b', off + i, none⟩ = some (.int .i64 s) := (hbU.cell (p := ⟨b', off + i, none⟩) hbb).trans c1; have hbxU := hide ((Hbx.out.drewN _).call hbU); clear hbU)
              | (go_at_call 24; refine (awake20_any _).mono ?_; rintro e w9 ⟨rfl, hb9⟩)
              | (go_quiet (fail)))
            all_goals first | (exfalso; omega) | skip
            go_ret
            exact ⟨rfl, (hbxU.out.call hb9).below⟩
          | some l =>
            have HOf2 : Hid (∀ W, Below w2.heap.size w2 W → Calls Try.prog 30 #[.slice (some ⟨b, 0, none⟩) g.names.length g.names.length, .int .i64 k, .slice (some ⟨b', off, none⟩) syms.length c] W fun e w' => (∃ A2 c2, e = .returned (.tuple #[.slice A2 l.length c2, .bool true])) ∧ Below W.heap.size W w') := fun W hW => by
              have := HOf.out W hW
              rw [hr] at this
              refine this.mono ?_
              rintro e w' ⟨⟨x, rfl, A2, c2, rfl, -, -, -, -⟩, hb⟩
              exact ⟨⟨A2, c2, by rw [List.length_map]⟩, hb⟩
            clear hr HOf
            go_wp2_with (first
              | (go_at_call 30; refine (HOf2.out _ (bdrew HbW.out _)).mono ?_; rintro e U ⟨⟨A2, c2', rfl⟩, hbU⟩; have c2 : U.cell? ⟨b', off + i, none⟩ = some (.int .i64 s) := (hbU.cell (p := ⟨b', off + i, none⟩) hbb).trans c1; have hbxU := hide ((Hbx.out.drewN _).call hbU); clear hbU)
              | (go_at_call 24; refine (awake20_any _).mono ?_; rintro e w9 ⟨rfl, hb9⟩)
              | (go_quiet (fail)))
            all_goals first | (exfalso; omega) | skip
            go_ret
            exact ⟨rfl, (hbxU.out.call hb9).below⟩
        · have hbd : (g.names.length : Int) ≤ s ∨ s < -256 := by omega
          have hnone : ofF k L syms [[]] = none := ofF_none _ _ ⟨s, by rw [Hs.out]; exact List.getElem_mem hlt, symW_none (by rw [HGood.out.len]; exact hbd)⟩
          have HOf2 : Hid (∀ W, Below w2.heap.size w2 W → Calls Try.prog 30 #[.slice (some ⟨b, 0, none⟩) g.names.length g.names.length, .int .i64 k, .slice (some ⟨b', off, none⟩) syms.length c] W fun e w' => e = .returned (.tuple #[.slice none 0 0, .bool false]) ∧ Below W.heap.size W w') := fun W hW => by
            have := HOf.out W hW
            rw [hnone] at this
            exact this
          clear hnone HOf
          rcases hbd with hbd | hbd
          · have hd1 : decide ((g.names.length : Int) ≤ s) = true := decide_eq_true hbd
            have hd3 : decide (s < 0) = false := decide_eq_false (by omega)
            go_wp2_with (first
              | (go_at_call 30; refine (HOf2.out _ (bdrew HbW.out _)).mono ?_; rintro e U ⟨rfl, hbU⟩; have c2 : U.cell? ⟨b', off + i, none⟩ = some (.int .i64 s) := (hbU.cell (p := ⟨b', off + i, none⟩) hbb).trans c1; have hbxU := hide ((Hbx.out.drewN _).call hbU); clear hbU)
              | (go_at_call 24; refine (awake20_any _).mono ?_; rintro e w9 ⟨rfl, hb9⟩)
              | (go_quiet (fail)))
            all_goals first | (exfalso; omega) | skip
            go_ret
            exact ⟨rfl, (hbxU.out.call hb9).below⟩
          · have hd1 : decide ((g.names.length : Int) ≤ s) = false := decide_eq_false (by omega)
            have hd2 : decide (s < -(g.terms.length : Int)) = true := decide_eq_true (by omega)
            have hd3 : decide (s < 0) = true := decide_eq_true (by omega)
            have hd4 : decide (-256 ≤ s) = false := decide_eq_false (by omega)
            go_wp2_with (first
              | (go_at_call 30; refine (HOf2.out _ (bdrew HbW.out _)).mono ?_; rintro e U ⟨rfl, hbU⟩; have c2 : U.cell? ⟨b', off + i, none⟩ = some (.int .i64 s) := (hbU.cell (p := ⟨b', off + i, none⟩) hbb).trans c1; have hbxU := hide ((Hbx.out.drewN _).call hbU); clear hbU)
              | (go_at_call 24; refine (awake20_any _).mono ?_; rintro e w9 ⟨rfl, hb9⟩)
              | (go_quiet (fail)))
            all_goals first | (exfalso; omega) | skip
            go_ret
            exact ⟨rfl, (hbxU.out.call hb9).below⟩
      · have hd1 : decide ((g.names.length : Int) ≤ s) = false := decide_eq_false (by omega)
        have hd2 : decide (s < -(g.terms.length : Int)) = false := decide_eq_false (by omega)
        have Hr2 : Hid (∀ j (h : j < syms.length), j < i + 1 → -(g.terms.length : Int) ≤ syms[j] ∧ syms[j] < g.names.length) := by
          intro j hj hji
          by_cases e : j = i
          · subst e; rw [← Hs.out]; omega
          · exact hrange.out j hj (by omega)
        go_wp2_with (go_quiet (fail))
        all_goals first | (exfalso; omega) | skip
        go_roundw
        case rel => exact ⟨_, rfl, bdrew HbW.out _, i + 1, by omega, by go_num, Hr2.out⟩
        case measure => simp [intOf]; omega
    · obtain rfl : i = syms.length := by omega
      have hsr : ∀ s ∈ syms, -(g.terms.length : Int) ≤ s ∧ s < g.names.length := fun s hs => by
        obtain ⟨j, hj, rfl⟩ := List.mem_iff_getElem.1 hs
        exact hrange.out j hj hj
      obtain ⟨res, hres, hfit⟩ := ofF_some HGood.out.fit hk1 hk4 h3 syms [[]] (by rw [HGood.out.len]; exact hsr) (one_fit _ _)
      have hnod := ofF_nodup _ _ _ (by simp) hres
      have hmem := first_of hk1 HGood.out.snd HGood.out.cls hres
      have hrl := fit_len h3 hk4 hnod hfit
      have HOf2 : Hid (∀ W, Below w2.heap.size w2 W → Calls Try.prog 30 #[.slice (some ⟨b, 0, none⟩) g.names.length g.names.length, .int .i64 k, .slice A syms.length c] W fun e w' => (∃ A2 c2, e = .returned (.tuple #[.slice A2 res.length c2, .bool true]) ∧ SV w' w'.heap.size (.slice A2 res.length c2) (wsv res)) ∧ Below W.heap.size W w') := fun W hW => by
        have := HOf.out W hW
        rw [hres] at this
        refine this.mono ?_
        rintro e w' ⟨⟨x, rfl, hx⟩, hb⟩
        obtain ⟨A2, c2, rfl, -, -, -, -⟩ := id hx
        rw [List.length_map] at hx ⊢
        exact ⟨⟨A2, c2, rfl, hx⟩, hb⟩
      have Hsr := hide hsr; have Hmem := hide hmem; have Hnod := hide hnod; have Hfit := hide hfit
      have Hbx := hide hbx; have HbW := hide hbW
      clear HOf hsr hmem hnod hfit hres hrange hbx hbW
      go_wp2_with (first
        | (go_at_call 30; refine (HOf2.out _ HbW.out).mono ?_; rintro e U ⟨⟨A2, cr2, rfl, hSVr⟩, hbU⟩; have HSVr := hide hSVr; have HbxU := hide (Hbx.out.call hbU); have HbU := hide hbU; have cGU := HbxU.out.cell; clear hbU hSVr)
        | (go_at_call 26; refine (HAll.out _).mono ?_; rintro e w5 ⟨⟨va, rfl, hva⟩, hb5⟩; obtain ⟨Aa, ca, hae, qa1, qa2, qa3, -⟩ := id hva.form; rw [List.length_map] at hae qa1; subst hae; have Hb5 := hide (HbxU.out.call hb5); have HSV5 := hide (HSVr.out.call hb5); have Hqa := hide qa3; have Hb5w := hide (HbW.out.trans ((HbU.out.mono HbW.out.size).trans (hb5.mono (Nat.le_trans HbW.out.size HbU.out.size)))); have cG5 := Hb5.out.cell; clear hb5 hva qa3))
      all_goals first | (exfalso; omega) | skip
      have hva5 : Hid (∀ W, Below w5.heap.size w5 W → SlAt W W.heap.size Aa (wsv (allW g.terms.length k))) := fun W hW => (Hqa.out.below hW).more hW.size
      clear cG cGU
      go_loopw [14, 16] (fun n i V => ∃ W, W = V ∧ Below w5.heap.size w5 W ∧ ∃ j : Nat, j ≤ (allW g.terms.length k).length ∧ i = .int .i64 j ∧ n = .int .i64 (((allW g.terms.length k).take j).filter fun w => decide (w ∈ res)).length) (fun _ i _ => (allW g.terms.length k).length - (intOf i).toNat)
      case atStart => exact ⟨_, rfl, Below.refl _ _, 0, by omega, rfl, by simp⟩
      case round =>
        clear cG5
        obtain ⟨W, rfl, hbW, j, hj, rfl, rfl⟩ := hrel
        have hbx := Hb5.out.call hbW
        have cG := hbx.cell
        have hWs := hbW.size
        have hfl : (((allW g.terms.length k).take j).filter fun w => decide (w ∈ res)).length ≤ 121 := Nat.le_trans (List.length_filter_le _ _) (by rw [List.length_take]; omega)
        by_cases hjl : j < (allW g.terms.length k).length
        · obtain ⟨bb, off, rfl, hbb, hcs⟩ := (hva5.out W hbW).at_ (k := j) (by simpa using hjl)
          have c1 := hcs j _ (wsv_at _ j hjl)
          obtain ⟨X, hX⟩ : ∃ X : ByteArray, X = ⟨(allW g.terms.length k)[j].toArray⟩ := ⟨_, rfl⟩
          rw [← hX] at c1
          have HXe := hide hX
          have HXd : Hid (X.data.toList = (allW g.terms.length k)[j]) := by rw [hX]; rfl
          have hXs : X.size ≤ 1000 := by
            have h1 := ((mem_allW (by omega) k _).1 (List.getElem_mem hjl)).1
            rw [hX]; show (allW g.terms.length k)[j].toArray.size ≤ 1000
            rw [List.size_toArray]; omega
          have HM : Hid (∀ W', Bx w #[.slice An g.names.length cn, .slice At g.terms.length ct, .slice Ar g.rules.length cr] 25 W' → Calls Try.prog 27 #[.agg #[.slice An g.names.length cn, .slice At g.terms.length ct, .slice Ar g.rules.length cr], .string X] W' (MakePost W' g.rules g.names.length (.slice An g.names.length cn) (.slice At g.terms.length ct) (.slice Ar g.rules.length cr) X)) := fun W' hW' =>
            make20_any ⟨An, cn, At, ct, Ar, cr⟩ g X W' (HG.out.bx hW') HW.out.vg hXs HW.out.prd
          obtain ⟨is, his⟩ : ∃ is, is = decide ((allW g.terms.length k)[j] ∈ res) := ⟨_, rfl⟩
          have HFi : Hid (∀ (W' : World) (T : TV) (E : Nat → Nat → Nat → Bool) (F : Nat → Nat → Bool), Below w2.heap.size w2 W' → (∃ bx cs, Fix20 W' bx g.names.length X.size cs T E F) → Snd g.rules X.data.toList g.names.length E F → Cls g.rules X.data.toList E F → Calls Try.prog 28 #[.agg #[.slice An g.names.length cn, .slice At g.terms.length ct, .slice Ar g.rules.length cr, .string X, .slice (some ⟨T.eb, 0, none⟩) g.names.length T.ec, .slice (some ⟨T.fb, 0, none⟩) g.names.length T.fc], .int .i64 k, .slice A syms.length c] W' fun e w' => e = .returned (.bool is) ∧ Below W'.heap.size W' w') := by
            rintro W' T E F hW' ⟨bx, cs, hf⟩ hs hc
            have hb : bool (FirP X.data.toList E F (k : Int) syms) = is := by
              rw [his]
              symm
              apply bool_eq
              rw [decide_eq_true_eq, Hmem.out, firP_iff hs hc (HW.out.prdS syms (fun s hs => ⟨(Hsr.out s hs).2, (Hsr.out s hs).1⟩)) k, HXd.out]
            rw [← hb]
            exact first20_any _ _ _ X T g.names.length E F A c syms k W' hf.tab hXs (HA2.out W' hW') hcc (by omega) (fun s hs => by have := Hsr.out s hs; omega) hf.ca.1 hf.ca.2.1 hf.ca.2.2.1 hf.ca.2.2.2
          have g0 : W.cell? ⟨w.heap.size, 0, none⟩ = some (.slice An g.names.length cn) := cG 0
          have g1 : W.cell? ⟨w.heap.size, 1, none⟩ = some (.slice At g.terms.length ct) := cG 1
          have g2 : W.cell? ⟨w.heap.size, 2, none⟩ = some (.slice Ar g.rules.length cr) := cG 2
          have Hbx := hide hbx; have HbW5 := hide hbW
          have Hwp2 := hide (Hb5w.out.trans (hbW.mono Hb5w.out.size))
          have His := hide his
          clear hbx hbW hcs hX his
          go_upto_region 20 with fail
          go_cut [17] (fun p V => ∃ U, U = V ∧ Below W.heap.size W U ∧ p = .bool is)
          case first =>
            go_region_held3 (fun w' => w'.cell? ⟨w.heap.size, 0, none⟩ = some (.slice An g.names.length cn) ∧ w'.cell? ⟨w.heap.size, 1, none⟩ = some (.slice At g.terms.length ct) ∧ w'.cell? ⟨w.heap.size, 2, none⟩ = some (.slice Ar g.rules.length cr) ∧ w'.cell? ⟨bb, off + j, none⟩ = some (.string X)) (go_keep) (first
              | (go_at_call 27; refine (HM.out (World.drew W) (Hbx.out.drew)).mono ?_; rintro e U ⟨⟨T, E, F, rfl, ⟨bx, cs, hbx2, hfix⟩, hsnd, hcls⟩, hbU⟩;
                 have hUW : Below W.heap.size W U := below_pre hbU rfl rfl rfl rfl;
                 have k0 := (hUW.cell (p := ⟨w.heap.size, 0, none⟩) Hbx.out.lt).trans g0; have k1 := (hUW.cell (p := ⟨w.heap.size, 1, none⟩) Hbx.out.lt).trans g1; have k2 := (hUW.cell (p := ⟨w.heap.size, 2, none⟩) Hbx.out.lt).trans g2; have k3 := (hUW.cell (p := ⟨bb, off + j, none⟩) hbb).trans c1;
                 have HFi2 := hide (HFi.out U T E F (Hwp2.out.trans (hUW.mono Hwp2.out.size)) ⟨bx, cs, hfix⟩ hsnd hcls); have HbU := hide hUW; clear hbx2 hfix hsnd hcls hbU hUW)
              | (go_at_call 28; refine HFi2.out.mono ?_; rintro e U2 ⟨rfl, hbU2⟩;
                 have hUW : Below W.heap.size W U2 := HbU.out.trans (hbU2.mono HbU.out.size);
                 have k0 := (hUW.cell (p := ⟨w.heap.size, 0, none⟩) Hbx.out.lt).trans g0; have k1 := (hUW.cell (p := ⟨w.heap.size, 1, none⟩) Hbx.out.lt).trans g1; have k2 := (hUW.cell (p := ⟨w.heap.size, 2, none⟩) Hbx.out.lt).trans g2; have k3 := (hUW.cell (p := ⟨bb, off + j, none⟩) hbb).trans c1;
                 have HU2 := hide hUW; clear hbU2 hUW))
            all_goals
              go_wp2_with fail
              go_meet
              exact ⟨_, rfl, HU2.out, rfl⟩
          case rest =>
            obtain ⟨U, rfl, hUW, rfl⟩ := hcut
            have c2 : U.cell? ⟨bb, off + j, none⟩ = some (.string X) := (hUW.cell (p := ⟨bb, off + j, none⟩) hbb).trans c1
            have HSVU := hide (HSV5.out.call (HbW5.out.trans (hUW.mono hWs)))
            have HUW := hide hUW
            have Hfs := hide (filt_snoc (allW g.terms.length k) (fun w => decide (w ∈ res)) j hjl)
            have Hhas : Hid (∀ W', SV W' W'.heap.size (.slice A2 res.length cr2) (wsv res) → Calls Try.prog 29 #[.slice A2 res.length cr2, .string X] W' fun e w' => e = .returned (.bool is) ∧ W' = w') := fun W' hW' => by
              rw [HXe.out, His.out]
              exact has19_any _ res (allW g.terms.length k)[j] W' hW'
            clear hUW g0 g1 g2 cG HM HFi
            cases is with
            | false =>
              rw [← His.out] at Hfs
              go_wp2_with (go_at_call 29; refine (Hhas.out _ HSVU.out).mono ?_; rintro e w9 ⟨rfl, rfl⟩)
              all_goals first | (exfalso; omega) | skip
              go_roundw
              case rel => exact ⟨_, rfl, HbW5.out.trans (HUW.out.mono hWs), j + 1, by omega, by go_num, by rw [Hfs.out]; rfl⟩
              case measure => simp [intOf]; omega
            | true =>
              rw [← His.out] at Hfs
              go_wp2_with (go_at_call 29; refine (Hhas.out _ HSVU.out).mono ?_; rintro e w9 ⟨rfl, rfl⟩)
              all_goals first | (exfalso; omega) | skip
              go_roundw
              case rel => exact ⟨_, rfl, HbW5.out.trans (HUW.out.mono hWs), j + 1, by omega, by go_num, by rw [Hfs.out]; congr 1⟩
              case measure => simp [intOf]; omega
        · obtain rfl : j = (allW g.terms.length k).length := by omega
          have hcnt := count_in Hnd.out Hnod.out (fit_all (by omega) Hfit.out)
          rw [List.take_length, hcnt]
          have Hbx := hide hbx
          clear hbx hbW hcnt cG
          go_wp2_with (go_at_call 24; refine (awake20_any _).mono ?_; rintro e w6 ⟨rfl, hb6⟩)
          all_goals first | (exfalso; omega) | skip
          go_ret
          exact ⟨rfl, (Hbx.out.call hb6).below⟩

theorem firstof_any (v : GV) (g : G) (k : Int) (A : Option Addr) (c : Nat) (syms : List Int) (w : World) (hg : GAt w w.heap.size v g) (hA : SlAt w w.heap.size A (ints syms)) (hcc : syms.length ≤ c) (hcm : c ≤ 9223372036854775807) (hW64 : Wide64 syms) :
    Calls Try.prog 6 #[.agg #[.slice v.An g.names.length v.cn, .slice v.At g.terms.length v.ct, .slice v.Ar g.rules.length v.cr], .int .i64 k, .slice A syms.length c] w fun e w' => e = .returned (.bool true) ∧ Below w.heap.size w w' := by
  by_cases h : fewB g = true ∧ g.terms.length ≤ 3 ∧ syms.length ≤ 6 ∧ 1 ≤ k ∧ k ≤ 4 ∧ WM g
  · obtain ⟨h1, h2, h3, h4, h5, h6⟩ := h
    obtain ⟨k, rfl⟩ := Int.eq_ofNat_of_zero_le (by omega : 0 ≤ k)
    exact firstof_main v g k A c syms w hg hA hcc hcm hW64 h1 h2 h3 (by omega) (by omega) h6
  · exact firstof_out v g k A c syms w hg (by omega) h
end Go.Proofs.Ythpjjlmgdalpaaa
