/- FirstWords: the walk where the sets are asked for. -/
import Derived.Test.YthpjjlmgdalpaaaL2
import Derived.Deep.RegionHeld3
namespace Go.Proofs.Ythpjjlmgdalpaaa
open Go.RowKit

/-- What is known of the first sets. -/
structure Good20 (g : G) (k : Nat) (L : LS) : Prop where
  len : L.length = g.names.length
  fit : FitAll g.terms.length k L
  inv : LInv g.names.length L
  snd : SndF g.rules k L
  cls : ClsF g.rules k L
  mem : ∀ s w, w ∈ L.getD s [] ↔ ∃ x, Der g.rules [(s : Int)] x ∧ w = x.take k
theorem good20 {g : G} {k : Nat} (hw : WM g) (hk1 : 1 ≤ k) (hk4 : k ≤ 4) (ht : g.terms.length ≤ 3) {r : Option LS} (h : SetsRes k g.rules (List.replicate g.names.length []) r) : ∃ L, r = some L ∧ Good20 g k L := by
  have hr : ∀ r ∈ g.rules, 0 ≤ r.left ∧ r.left < g.names.length := fun r hr => ⟨(hw.vg.ru r hr).1, (hw.vg.ru r hr).2.1⟩
  obtain ⟨L, e, hfit, hlen⟩ := sets_some hk1 hk4 ht (fun r hr' => ⟨(hr r hr').1, (hr r hr').2, fun s hs => ⟨((hw.vg.ru r hr').2.2.2 s hs).2, ((hw.vg.ru r hr').2.2.2 s hs).1⟩⟩) h (fit_start _ _ _) (by simp)
  obtain ⟨h1, h2, h3⟩ := sets_law hk1 hr h (linv_start _) (snd_start _) L e
  exact ⟨L, e, hlen, hfit, h1, h2, h3, fun s w => first_set hk1 hr h2 h3 s w⟩
theorem fsets_good (v : GV) (g : G) (k : Nat) (w : World) (hg : GAt w w.heap.size v g) (hw : WM g) (hk1 : 1 ≤ k) (hk4 : k ≤ 4) (ht : g.terms.length ≤ 3) :
    Calls Try.prog 25 #[.agg #[.slice v.An g.names.length v.cn, .slice v.At g.terms.length v.ct, .slice v.Ar g.rules.length v.cr], .int .i64 k] w fun e w' => (∃ b L, e = .returned (.tuple #[.slice (some ⟨b, 0, none⟩) g.names.length g.names.length, .int .i64 0]) ∧ SS w' b L ∧ Sized L ∧ Good20 g k L) ∧ Below w.heap.size w w' := by
  refine (fsets_any v g k w hg hw hk1 hk4).mono ?_
  rintro e w' ⟨⟨r, hr, hm⟩, hb⟩
  obtain ⟨L, rfl, hL⟩ := good20 hw hk1 hk4 ht hr
  obtain ⟨b, rfl, hS, h1, h2⟩ := hm
  exact ⟨⟨b, L, rfl, hS, h2, hL⟩, hb⟩
theorem AllAsc.nodup {L : LS} (h : AllAsc L) (a : Nat) : (L.getD a []).Nodup := by
  by_cases ha : a < L.length
  · have : L.getD a [] = L[a] := by simp [List.getD, ha]
    rw [this]; exact asc_nodup (h _ (List.getElem_mem ha))
  · have : L.getD a [] = [] := by simp [List.getD, Nat.not_lt.1 ha]
    rw [this]; exact List.nodup_nil
theorem FitAll.get {t k : Nat} {L : LS} (h : FitAll t k L) (a : Nat) : Fit t k (L.getD a []) := by
  by_cases ha : a < L.length
  · have : L.getD a [] = L[a] := by simp [List.getD, ha]
    rw [this]; exact h _ (List.getElem_mem ha)
  · have : L.getD a [] = [] := by simp [List.getD, Nat.not_lt.1 ha]
    rw [this]; intro w hw; cases hw
theorem SS.getV {W : World} {b : Nat} {L : LS} (h : SS W b L) (i : Nat) (hi : i < L.length) : ∃ v, W.cell? ⟨b, i, none⟩ = some v ∧ SV W W.heap.size v (wsv (L.getD i [])) := by
  obtain ⟨v, h1, h2⟩ := h.at_ i hi
  have : L.getD i [] = L[i] := by simp [List.getD, hi]
  rw [this]
  exact ⟨v, h1, SV.of_own h2⟩

/-- A table that was made, in a box of its own. -/
def TabCut (W : World) (rs : List Rule) (n : Nat) (G0 G1 G2 : Value) (X : ByteArray) (p : Value) (V : World) : Prop :=
  Below W.heap.size W V ∧ ∃ (tb : Nat) (T : TV) (E : Nat → Nat → Nat → Bool) (F : Nat → Nat → Bool), p = .pointer (some ⟨tb, 0, none⟩) ∧ Blk V tb 48 #[G0, G1, G2, .string X, .slice (some ⟨T.eb, 0, none⟩) n T.ec, .slice (some ⟨T.fb, 0, none⟩) n T.fc] ∧ (∃ bx cs, Fix20 V bx n X.size cs T E F) ∧ Snd rs X.data.toList n E F ∧ Cls rs X.data.toList E F
section
variable {W U : World} {rs : List Rule} {n bx : Nat} {cs : Array Value} {G0 G1 G2 : Value} {X : ByteArray} {T : TV} {E : Nat → Nat → Nat → Bool} {F : Nat → Nat → Bool}
theorem tabcut_alloc (hb : Below W.heap.size W U) (h : W.heap.size ≤ bx ∧ Fix20 U bx n X.size cs T E F ∧ Snd rs X.data.toList n E F ∧ Cls rs X.data.toList E F) :
    TabCut W rs n G0 G1 G2 X (.pointer (some ⟨U.heap.size, 0, none⟩)) (U.alloc (.cells #[G0, G1, G2, .string X, .slice (some ⟨T.eb, 0, none⟩) n T.ec, .slice (some ⟨T.fb, 0, none⟩) n T.fc] 48)) :=
  ⟨hb.alloc hb.size _, _, T, E, F, rfl, Blk.new U _ _, ⟨bx, cs, h.2.1.below ((Below.refl _ _).alloc (Nat.le_refl _) _)⟩, h.2.2.1, h.2.2.2⟩
theorem tabcut_set {z0 z1 z2 z3 z4 z5 : Value} (hb : Below W.heap.size W U) (hR : Blk U W.heap.size 48 #[z0, z1, z2, z3, z4, z5]) (h : W.heap.size + 1 ≤ bx ∧ Fix20 U bx n X.size cs T E F ∧ Snd rs X.data.toList n E F ∧ Cls rs X.data.toList E F) :
    TabCut W rs n G0 G1 G2 X (.pointer (some ⟨W.heap.size, 0, none⟩)) ((((((U.setCell ⟨W.heap.size, 0, none⟩ G0).setCell ⟨W.heap.size, 1, none⟩ G1).setCell ⟨W.heap.size, 2, none⟩ G2).setCell ⟨W.heap.size, 3, none⟩ (.string X)).setCell ⟨W.heap.size, 4, none⟩ (.slice (some ⟨T.eb, 0, none⟩) n T.ec)).setCell ⟨W.heap.size, 5, none⟩ (.slice (some ⟨T.fb, 0, none⟩) n T.fc)) := by
  obtain ⟨h1, h2, h3, h4⟩ := h
  have k0 := h2.far hR (by omega) 0 G0
  have k1 := k0.far (hR.set_ 0 _) (by omega) 1 G1
  have k2 := k1.far ((hR.set_ 0 _).set_ 1 _) (by omega) 2 G2
  have k3 := k2.far (((hR.set_ 0 _).set_ 1 _).set_ 2 _) (by omega) 3 (.string X)
  have k4 := k3.far ((((hR.set_ 0 _).set_ 1 _).set_ 2 _).set_ 3 _) (by omega) 4 (.slice (some ⟨T.eb, 0, none⟩) n T.ec)
  have k5 := k4.far (((((hR.set_ 0 _).set_ 1 _).set_ 2 _).set_ 3 _).set_ 4 _) (by omega) 5 (.slice (some ⟨T.fb, 0, none⟩) n T.fc)
  refine ⟨Below.set (Below.set (Below.set (Below.set (Below.set (Below.set hb _ _ (Nat.le_refl _) _) _ _ (Nat.le_refl _) _) _ _ (Nat.le_refl _) _) _ _ (Nat.le_refl _) _) _ _ (Nat.le_refl _) _) _ _ (Nat.le_refl _) _, _, T, E, F, rfl, ?_, ⟨bx, cs, k5⟩, h3, h4⟩
  exact (((((hR.set_ 0 G0).set_ 1 G1).set_ 2 G2).set_ 3 (.string X)).set_ 4 (.slice (some ⟨T.eb, 0, none⟩) n T.ec)).set_ 5 (.slice (some ⟨T.fb, 0, none⟩) n T.fc)
end

set_option maxHeartbeats 2000000 in
set_option maxRecDepth 20000 in
theorem firstwords_main (v : GV) (g : G) (k : Nat) (w : World) (hg : GAt w w.heap.size v g) (hf : fewB g = true) (h3 : g.terms.length ≤ 3) (hk1 : 1 ≤ k) (hk4 : k ≤ 4) (hw : WM g) :
    Calls Try.prog 5 #[.agg #[.slice v.An g.names.length v.cn, .slice v.At g.terms.length v.ct, .slice v.Ar g.rules.length v.cr], .int .i64 k] w fun e w' => e = .returned (.bool true) ∧ Below w.heap.size w w' := by
  have Hb0 := hide (Bx.self (w := w) (cs := #[.slice v.An g.names.length v.cn, .slice v.At g.terms.length v.ct, .slice v.Ar g.rules.length v.cr]) (T := 25))
  have HF := hide (few_any v g _ (hg.bx Hb0.out))
  have ht := hg.ht
  have hn := hg.hn
  have hl := few_le hf
  have HG := hide hg
  have HW := hide hw
  have H1 := hide hf
  have hsm : g.names.length ≤ 1000000 ∧ g.terms.length ≤ 1000000 := by omega
  have hall := allW_small g.terms.length (by omega) k (by omega)
  have hn1 := hw.vg.n1
  have HS := hide (fun W (hW : Bx w #[.slice v.An g.names.length v.cn, .slice v.At g.terms.length v.ct, .slice v.Ar g.rules.length v.cr] 25 W) => fsets_good v g k W (hg.bx hW) hw hk1 hk4 h3)
  have HC : Hid (∀ W, Bx w #[.slice v.An g.names.length v.cn, .slice v.At g.terms.length v.ct, .slice v.Ar g.rules.length v.cr] 25 W → Calls Try.prog 21 #[.agg #[.slice v.An g.names.length v.cn, .slice v.At g.terms.length v.ct, .slice v.Ar g.rules.length v.cr]] W fun e w' => e = .returned (.int .i64 0) ∧ Below W.heap.size W w') := fun W hW =>
    (check15_any v g W (hg.bx hW) hsm).mono fun e w' ⟨⟨n, h1, h2⟩, h3⟩ => ⟨by rw [h1, h2.2 hw], h3⟩
  have HA := hide (fun W => all18_any g.terms.length k W (by omega) (by omega) (by omega))
  have Hnd := hide hall.1
  have hal := hall.2
  clear hg hf hw hall
  obtain ⟨An, cn, At, ct, Ar, cr⟩ := v
  dsimp only at Hb0 HF ht hn HG HS HC
  go_enter Try.func5, Try.ntmps5
  go_wp2_with (first
    | (go_at_call 15; refine HF.out.mono ?_; rintro e w1 ⟨rfl, hb1⟩; rw [if_pos H1.out]; have Hb1 := hide (Hb0.out.call hb1); have cG := Hb1.out.cell; clear hb1)
    | (go_at_call 25; refine (HS.out _ Hb1.out).mono ?_; rintro e w2 ⟨⟨b, L, rfl, hSS, hSz, hgood⟩, hb2⟩; have HSS := hide hSS; have HGood := hide hgood; have Hb2 := hide (Hb1.out.call hb2); have cG2 := Hb2.out.cell; clear hSS hSz hgood hb2)
    | (go_at_call 21; refine (HC.out _ Hb2.out).mono ?_; rintro e w4 ⟨rfl, hb4⟩; have Hb4 := hide (Hb2.out.call hb4); have HSS4 := hide (HSS.out.below hb4); have cG4 := Hb4.out.cell; clear hb4)
    | (go_at_call 26; refine (HA.out _).mono ?_; rintro e w5 ⟨⟨va, rfl, hva⟩, hb5⟩; obtain ⟨Aa, ca, hae, qa1, qa2, qa3, -⟩ := id hva.form; rw [List.length_map] at hae qa1; subst hae; have Hb5 := hide (Hb4.out.call hb5); have HSS5 := hide (HSS4.out.below hb5); have Hqa := hide qa3; have cG5 := Hb5.out.cell; clear hb5 hva qa3)
    )
  all_goals first | (exfalso; omega) | skip
  have hva5 : Hid (∀ W, Below w5.heap.size w5 W → SlAt W W.heap.size Aa (wsv (allW g.terms.length k))) := fun W hW => (Hqa.out.below hW).more hW.size
  go_loopw [7, 9] (fun n i V => ∃ W, W = V ∧ Below w5.heap.size w5 W ∧ ∃ j : Nat, j ≤ (allW g.terms.length k).length ∧ i = .int .i64 j ∧ n = .int .i64 (totW L ((allW g.terms.length k).take j) g.names.length : Nat)) (fun _ i _ => (allW g.terms.length k).length - (intOf i).toNat)
  case atStart => exact ⟨_, rfl, Below.refl _ _, 0, by omega, rfl, by simp [totW]⟩
  case round =>
    clear cG cG2 cG4 cG5
    obtain ⟨W, rfl, hbW, j, hj, rfl, rfl⟩ := hrel
    have hbx := Hb5.out.call hbW
    have cG := hbx.cell
    have hWs := hbW.size
    by_cases hjl : j < (allW g.terms.length k).length
    · obtain ⟨bb, off, rfl, hbb, hcs⟩ := (hva5.out W hbW).at_ (k := j) (by simpa using hjl)
      have c1 := hcs j _ (wsv_at _ j hjl)
      obtain ⟨X, hX⟩ : ∃ X : ByteArray, X = ⟨(allW g.terms.length k)[j].toArray⟩ := ⟨_, rfl⟩
      rw [← hX] at c1
      have HXe := hide hX
      have HXd : Hid (X.data.toList = (allW g.terms.length k)[j]) := by rw [hX]; rfl
      have hXs : X.size ≤ 1000 := by
        have h1 := ((mem_allW (by omega) k _).1 (List.getElem_mem hjl)).1
        rw [hX]; show (allW g.terms.length k)[j].toArray.size ≤ 1000
        rw [List.size_toArray]; omega
      have HM : Hid (∀ W', Bx w #[.slice An g.names.length cn, .slice At g.terms.length ct, .slice Ar g.rules.length cr] 25 W' → Calls Try.prog 27 #[.agg #[.slice An g.names.length cn, .slice At g.terms.length ct, .slice Ar g.rules.length cr], .string X] W' (MakePost W' g.rules g.names.length (.slice An g.names.length cn) (.slice At g.terms.length ct) (.slice Ar g.rules.length cr) X)) := fun W' hW' =>
        make20_any ⟨An, cn, At, ct, Ar, cr⟩ g X W' (HG.out.bx hW') HW.out.vg hXs HW.out.prd
      have Hbx := hide hbx; have HbW := hide hbW
      clear hbx hbW hcs hX
      have g0 : W.cell? ⟨w.heap.size, 0, none⟩ = some (.slice An g.names.length cn) := cG 0
      have g1 : W.cell? ⟨w.heap.size, 1, none⟩ = some (.slice At g.terms.length ct) := cG 1
      have g2 : W.cell? ⟨w.heap.size, 2, none⟩ = some (.slice Ar g.rules.length cr) := cG 2
      have y0 := World.new_ne W _ g0; have y1 := World.new_ne W _ g1; have y2 := World.new_ne W _ g2; have y3 := World.new_ne W _ c1
      go_upto_region 13 with fail
      go_cut [10] (fun p V => ∃ U, U = V ∧ TabCut W g.rules g.names.length (.slice An g.names.length cn) (.slice At g.terms.length ct) (.slice Ar g.rules.length cr) X p U)
      case first =>
        go_region_held3 (fun w' => w'.cell? ⟨w.heap.size, 0, none⟩ = some (.slice An g.names.length cn) ∧ w'.cell? ⟨w.heap.size, 1, none⟩ = some (.slice At g.terms.length ct) ∧ w'.cell? ⟨w.heap.size, 2, none⟩ = some (.slice Ar g.rules.length cr) ∧ w'.cell? ⟨bb, off + j, none⟩ = some (.string X)) (go_keep) (first
          | (go_at_call 27; refine (HM.out (World.drew W) (Hbx.out.drew)).mono ?_; rintro e U ⟨⟨T, E, F, rfl, ⟨bx, cs, hbx2, hfix⟩, hsnd, hcls⟩, hbU⟩;
             have hUW : Below W.heap.size W U := below_pre hbU rfl rfl rfl rfl;
             have k0 := (hUW.cell (p := ⟨w.heap.size, 0, none⟩) Hbx.out.lt).trans g0; have k1 := (hUW.cell (p := ⟨w.heap.size, 1, none⟩) Hbx.out.lt).trans g1; have k2 := (hUW.cell (p := ⟨w.heap.size, 2, none⟩) Hbx.out.lt).trans g2; have k3 := (hUW.cell (p := ⟨bb, off + j, none⟩) hbb).trans c1;
             have HT := hide (And.intro hbx2 (And.intro hfix (And.intro hsnd hcls))); have HbU := hide hUW; clear hbx2 hfix hsnd hcls hbU hUW)
          | (go_at_call 27; refine (HM.out _ (Hbx.out.drew.alloc (.cells #[.slice none 0 0, .slice none 0 0, .slice none 0 0, .string ⟨#[]⟩, .slice none 0 0, .slice none 0 0] 48))).mono ?_; rintro e U ⟨⟨T, E, F, rfl, ⟨bx, cs, hbx2, hfix⟩, hsnd, hcls⟩, hbU⟩;
             have hR1 : Blk U W.heap.size 48 #[.slice none 0 0, .slice none 0 0, .slice none 0 0, .string ⟨#[]⟩, .slice none 0 0, .slice none 0 0] := (show Blk ((World.drew W).alloc (.cells #[.slice none 0 0, .slice none 0 0, .slice none 0 0, .string ⟨#[]⟩, .slice none 0 0, .slice none 0 0] 48)) W.heap.size 48 #[.slice none 0 0, .slice none 0 0, .slice none 0 0, .string ⟨#[]⟩, .slice none 0 0, .slice none 0 0] from Blk.new (World.drew W) _ _).below hbU (by simp);
             have r0 : U.cell? ⟨W.heap.size, 0, none⟩ = some (.slice none 0 0) := hR1.cell 0;
             have r1 : U.cell? ⟨W.heap.size, 1, none⟩ = some (.slice none 0 0) := hR1.cell 1;
             have r2 : U.cell? ⟨W.heap.size, 2, none⟩ = some (.slice none 0 0) := hR1.cell 2;
             have r3 : U.cell? ⟨W.heap.size, 3, none⟩ = some (.string ⟨#[]⟩) := hR1.cell 3;
             have r4 : U.cell? ⟨W.heap.size, 4, none⟩ = some (.slice none 0 0) := hR1.cell 4;
             have r5 : U.cell? ⟨W.heap.size, 5, none⟩ = some (.slice none 0 0) := hR1.cell 5;
             have z0 := hR1.frozen 0; have z1 := hR1.frozen 1; have z2 := hR1.frozen 2; have z3 := hR1.frozen 3; have z4 := hR1.frozen 4; have z5 := hR1.frozen 5;
             have HR1 := hide hR1;
             have hUW : Below W.heap.size W U := ((bdrew (Below.refl _ W) 1).alloc (Nat.le_refl _) (.cells #[.slice none 0 0, .slice none 0 0, .slice none 0 0, .string ⟨#[]⟩, .slice none 0 0, .slice none 0 0] 48)).trans (hbU.mono (by simp));
             have k0 := (hUW.cell (p := ⟨w.heap.size, 0, none⟩) Hbx.out.lt).trans g0; have k1 := (hUW.cell (p := ⟨w.heap.size, 1, none⟩) Hbx.out.lt).trans g1; have k2 := (hUW.cell (p := ⟨w.heap.size, 2, none⟩) Hbx.out.lt).trans g2; have k3 := (hUW.cell (p := ⟨bb, off + j, none⟩) hbb).trans c1;
             have HT := hide (And.intro hbx2 (And.intro hfix (And.intro hsnd hcls))); have HbU := hide hUW; clear hbx2 hfix hsnd hcls hbU hR1 hUW))
        all_goals
          go_wp2_with fail
          go_meet
          refine ⟨_, rfl, ?_⟩
          first
            | ((with_reducible refine tabcut_alloc (bx := bx) (cs := cs) (E := E) (F := F) ?_ ?_); exact HbU.out; exact HT.out)
            | ((with_reducible refine tabcut_set (bx := bx) (cs := cs) (E := E) (F := F) ?_ HR1.out ?_); exact HbU.out; exact ⟨by have := HT.out.1; simpa using this, HT.out.2⟩)
      case rest =>
        obtain ⟨U, rfl, hWU, tb, T, E, F, rfl, hbox, hfix, hsnd, hcls⟩ := hcut
        have Hfix := hide hfix; have Hsc := hide (And.intro hsnd hcls); have Hbox := hide hbox; have HWU := hide hWU
        have htb := hbox.lt
        have hbj : (allW g.terms.length k)[j] ∈ allW g.terms.length k := List.getElem_mem hjl
        have Hfir : Hid (∀ a, a < g.names.length → bool (FirP X.data.toList E F (k : Int) [(a : Int)]) = decide ((allW g.terms.length k)[j] ∈ L.getD a [])) := fun a ha => by
          symm
          apply bool_eq
          rw [decide_eq_true_eq, HGood.out.mem a, firP_iff Hsc.out.1 Hsc.out.2 (HW.out.prdS [(a : Int)] (fun s hs => by rw [List.mem_singleton.1 hs]; omega)) k, HXd.out]
        have hlt1 : totW L ((allW g.terms.length k).take j) g.names.length ≤ 121 * 12 := by
          have h1 := totW_le L ((allW g.terms.length k).take j) g.names.length
          have h2 : ((allW g.terms.length k).take j).length ≤ 121 := by rw [List.length_take]; omega
          have h3 := Nat.mul_le_mul h2 hl.1
          omega
        clear hfix hsnd hcls hbox hWU hbj g0 g1 g2 y0 y1 y2 y3 cG HM
        go_wp2_with fail
        go_loopw [7, 11] (fun n a V => ∃ U2, U2 = V ∧ Below U.heap.size U U2 ∧ ∃ c : Nat, c ≤ g.names.length ∧ a = .int .i64 c ∧ n = .int .i64 ((totW L ((allW g.terms.length k).take j) g.names.length : Int) + (cW L (allW g.terms.length k)[j] c : Int))) (fun _ a _ => g.names.length - (intOf a).toNat)
        case atStart => exact ⟨_, rfl, Below.refl _ _, 0, by omega, rfl, by simp [cW]⟩
        case round =>
          obtain ⟨U2, rfl, hU2, a, ha, rfl, rfl⟩ := hrel
          have hbW2 : Below W.heap.size W U2 := HWU.out.trans (hU2.mono HWU.out.size)
          have hb52 : Below w5.heap.size w5 U2 := HbW.out.trans (hbW2.mono hWs)
          have hbx2 := Hbx.out.call hbW2
          have cG := hbx2.cell
          by_cases hal2 : a < g.names.length
          · have hbox2 := Hbox.out.below hU2 htb
            have d0 : U2.cell? ⟨tb, 0, none⟩ = some (.slice An g.names.length cn) := hbox2.cell 0
            have d1 : U2.cell? ⟨tb, 1, none⟩ = some (.slice At g.terms.length ct) := hbox2.cell 1
            have d2 : U2.cell? ⟨tb, 2, none⟩ = some (.slice Ar g.rules.length cr) := hbox2.cell 2
            have d3 : U2.cell? ⟨tb, 3, none⟩ = some (.string X) := hbox2.cell 3
            have d4 : U2.cell? ⟨tb, 4, none⟩ = some (.slice (some ⟨T.eb, 0, none⟩) g.names.length T.ec) := hbox2.cell 4
            have d5 : U2.cell? ⟨tb, 5, none⟩ = some (.slice (some ⟨T.fb, 0, none⟩) g.names.length T.fc) := hbox2.cell 5
            have HFi : Hid (Calls Try.prog 28 #[.agg #[.slice An g.names.length cn, .slice At g.terms.length ct, .slice Ar g.rules.length cr, .string X, .slice (some ⟨T.eb, 0, none⟩) g.names.length T.ec, .slice (some ⟨T.fb, 0, none⟩) g.names.length T.fc], .int .i64 k, .slice (some ⟨U2.heap.size, 0, none⟩) 1 1] (U2.alloc (.cells #[.int .i64 a] 3)) fun e w' => e = .returned (.bool (decide ((allW g.terms.length k)[j] ∈ L.getD a []))) ∧ Below (U2.alloc (.cells #[.int .i64 a] 3)).heap.size (U2.alloc (.cells #[.int .i64 a] 3)) w') := by
              obtain ⟨bx, cs, hf⟩ := Hfix.out
              have hf2 := (hf.below hU2).below ((Below.refl _ _).alloc (Nat.le_refl _) (.cells #[.int .i64 a] 3))
              rw [← Hfir.out a hal2]
              exact first20_any _ _ _ X T g.names.length E F (some ⟨U2.heap.size, 0, none⟩) 1 [(a : Int)] k _ hf2.tab hXs ((SlAt.lit U2 3 (ints [(a : Int)])).more (by simp)) (Nat.le_refl _) (by simp) (fun s hs => by rw [List.mem_singleton.1 hs]; omega) hf.ca.1 hf.ca.2.1 hf.ca.2.2.1 hf.ca.2.2.2
            have hSS2 := HSS5.out.below hb52
            obtain ⟨vl, e1, e2⟩ := hSS2.getV a (by rw [HGood.out.len]; exact hal2)
            have c2 : U2.cell? ⟨bb, off + j, none⟩ = some (.string X) := (hbW2.cell (p := ⟨bb, off + j, none⟩) hbb).trans c1
            have hbl : b < U2.heap.size := hSS2.lt
            obtain ⟨la, hla⟩ : ∃ la, la = L.getD a [] := ⟨_, rfl⟩
            rw [← hla] at e2 HFi
            obtain ⟨Al, cl, hvl, -, -, -, -⟩ := id e2
            rw [List.length_map] at hvl
            subst hvl
            have hcwa := cW_succ L (allW g.terms.length k)[j] a
            rw [← hla] at hcwa
            have Hla := hide hla
            clear hla
            have HE2 := hide e2
            have Hcw := hide hcwa
            clear hcwa
            have hcw2 := cW_le L (allW g.terms.length k)[j] a
            have HU2 := hide hU2
            have HB2 := hide hbx2
            have HL := hide e1
            clear hU2 hbW2 hb52 hbx2 hbox2 hSS2 e1 e2
            have Hhas : Hid (∀ W', SV W' W'.heap.size (.slice Al la.length cl) (wsv (la)) → Calls Try.prog 29 #[.slice Al la.length cl, .string X] W' fun e w' => e = .returned (.bool (decide ((allW g.terms.length k)[j] ∈ la))) ∧ w' = W') := fun W' hW' => by
              rw [HXe.out]
              exact (has19_any _ (la) (allW g.terms.length k)[j] W' hW').mono fun e w' ⟨h1, h2⟩ => ⟨h1, h2.symm⟩
            cases hin : decide ((allW g.terms.length k)[j] ∈ la) with
            | false =>
              rw [hin] at HFi Hhas
              rw [if_neg (of_decide_eq_false hin)] at Hcw
              clear hin
              go_wp2_with (first
                | (go_at_call 28; refine HFi.out.mono ?_; rintro e U3 ⟨rfl, hb3⟩; have hb23 : Below U2.heap.size U2 U3 := ((Below.refl _ _).alloc (Nat.le_refl _) _).trans (hb3.mono (by simp)); have f1 : U3.cell? ⟨b, a, none⟩ = _ := (hb23.cell (p := ⟨b, a, none⟩) hbl).trans HL.out; have f2 : U3.cell? ⟨bb, off + j, none⟩ = some (.string X) := (hb23.cell (p := ⟨bb, off + j, none⟩) (cell_lt c2)).trans c2; have HE3 := hide (HE2.out.call hb23); have Hb23 := hide hb23; clear hb3 hb23)
                | (go_quiet ((go_at_call 29; exact Calls.quiet_of_same (Hhas.out _ (HE3.out.heap rfl))))))
              go_roundw
              case rel => exact ⟨_, rfl, bdrew (HU2.out.trans (Hb23.out.mono HU2.out.size)) _, a + 1, by omega, by go_num, by rw [Hcw.out]; congr 1⟩
              case measure => simp [intOf]; omega
            | true =>
              rw [hin] at HFi Hhas
              rw [if_pos (of_decide_eq_true hin)] at Hcw
              clear hin
              go_wp2_with (first
                | (go_at_call 28; refine HFi.out.mono ?_; rintro e U3 ⟨rfl, hb3⟩; have hb23 : Below U2.heap.size U2 U3 := ((Below.refl _ _).alloc (Nat.le_refl _) _).trans (hb3.mono (by simp)); have f1 : U3.cell? ⟨b, a, none⟩ = _ := (hb23.cell (p := ⟨b, a, none⟩) hbl).trans HL.out; have f2 : U3.cell? ⟨bb, off + j, none⟩ = some (.string X) := (hb23.cell (p := ⟨bb, off + j, none⟩) (cell_lt c2)).trans c2; have HE3 := hide (HE2.out.call hb23); have Hb23 := hide hb23; clear hb3 hb23)
                | (go_quiet ((go_at_call 29; exact Calls.quiet_of_same (Hhas.out _ (HE3.out.heap rfl))))))
              go_roundw
              case rel => exact ⟨_, rfl, bdrew (HU2.out.trans (Hb23.out.mono HU2.out.size)) _, a + 1, by omega, by go_num, by rw [Hcw.out]; congr 1⟩
              case measure => simp [intOf]; omega
          · obtain rfl : a = g.names.length := by omega
            have Hts := hide (totW_snoc L (allW g.terms.length k) j g.names.length hjl)
            have HU2 := hide hU2
            clear hU2 hbW2 hb52 hbx2
            go_wp2_with fail
            go_roundw
            case rel => exact ⟨_, rfl, HbW.out.trans ((HWU.out.trans (HU2.out.mono HWU.out.size)).mono hWs), j + 1, by omega, by go_num, by rw [Hts.out]; congr 1⟩
            case measure => simp [intOf]; omega
    · obtain rfl : j = (allW g.terms.length k).length := by omega
      have hSSW := HSS5.out.below hbW
      have HSSW := hide hSSW
      have Hbx := hide hbx
      have Htl := hide (List.take_length (l := allW g.terms.length k))
      have Heq := hide (totW_eq L (allW g.terms.length k) Hnd.out g.names.length fun a ha => ⟨HGood.out.inv.1.nodup a, fit_all (by omega) (HGood.out.fit.get a)⟩)
      have hle := totW_le L (allW g.terms.length k) g.names.length
      have hle2 := Nat.mul_le_mul hal hl.1
      rw [List.take_length]
      clear hSSW hbx hbW
      go_wp2_with fail
      go_loop [7, 13] (fun n a => ∃ c : Nat, c ≤ g.names.length ∧ a = .int .i64 c ∧ n = .int .i64 ((totW L (allW g.terms.length k) g.names.length : Int) - (lenS L c : Int))) (fun _ a => g.names.length - (intOf a).toNat)
      case atStart => exact ⟨0, by omega, rfl, by simp [lenS]⟩
      case round =>
        obtain ⟨a, ha, rfl, rfl⟩ := hrel
        have hls := lenS_le L ha
        have hts : totW L (allW g.terms.length k) g.names.length ≤ 121 * 12 := Nat.le_trans hle hle2
        have hlt : lenS L g.names.length ≤ 121 * 12 := by rw [← Heq.out]; exact hts
        by_cases hal2 : a < g.names.length
        · obtain ⟨vl, e1, e2⟩ := HSSW.out.getV a (by rw [HGood.out.len]; exact hal2)
          obtain ⟨la, hla⟩ : ∃ la, la = L.getD a [] := ⟨_, rfl⟩
          rw [← hla] at e2
          obtain ⟨Al, cl, hvl, -, -, -, -⟩ := id e2
          rw [List.length_map] at hvl
          subst hvl
          have Hls := hide (lenS_succ L a)
          have Hla := hide hla
          have hls2 := lenS_le L (show a + 1 ≤ g.names.length from hal2)
          have hls3 : lenS L (a + 1) = lenS L a + la.length := by rw [Hls.out, ← Hla.out]
          have Hls3 := hide hls3
          have hlal : la.length ≤ 121 * 12 := by omega
          clear e2 hla hls3 cG
          go_wp2_with fail
          go_round
          case rel => exact ⟨a + 1, by omega, by go_num, by rw [Hls3.out]; congr 1; omega⟩
          case measure => simp [intOf]; omega
        · obtain rfl : a = g.names.length := by omega
          have hz : ((totW L (allW g.terms.length k) g.names.length : Int) - (lenS L g.names.length : Int) == 0) = true := by rw [beq_iff_eq, Heq.out]; omega
          go_wp2_with (go_at_call 24; refine (awake20_any _).mono ?_; rintro e w6 ⟨rfl, hb6⟩)
          go_ret
          exact ⟨rfl, (Hbx.out.call hb6).below⟩

theorem firstwords_any (v : GV) (g : G) (k : Int) (w : World) (hg : GAt w w.heap.size v g) :
    Calls Try.prog 5 #[.agg #[.slice v.An g.names.length v.cn, .slice v.At g.terms.length v.ct, .slice v.Ar g.rules.length v.cr], .int .i64 k] w fun e w' => e = .returned (.bool true) ∧ Below w.heap.size w w' := by
  by_cases hf : fewB g = true ∧ g.terms.length ≤ 3
  · by_cases hk : 1 ≤ k ∧ k ≤ 4 ∧ WM g
    · obtain ⟨h1, h2, h3⟩ := hk
      obtain ⟨k, rfl⟩ := Int.eq_ofNat_of_zero_le (by omega : 0 ≤ k)
      exact firstwords_main v g k w hg hf.1 hf.2 (by omega) (by omega) h3
    · refine firstwords_bad v g k w hg hf.1 hf.2 ?_
      by_cases h1 : k < 1
      · exact .inl h1
      · by_cases h2 : 4 < k
        · exact .inr (.inl h2)
        · exact .inr (.inr fun h => hk ⟨by omega, by omega, h⟩)
  · exact firstwords_few v g k w hg hf
end Go.Proofs.Ythpjjlmgdalpaaa
