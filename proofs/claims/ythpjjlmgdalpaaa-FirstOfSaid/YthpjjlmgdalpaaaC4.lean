/- wset.Cat. -/
import Derived.Test.YthpjjlmgdalpaaaC3
namespace Go.Proofs.Ythpjjlmgdalpaaa
open Go.RowKit Go.Maps Go.WideMaps

/-- One more word, if it is new. -/
def putW (out : List (List UInt8)) (x : List UInt8) : List (List UInt8) := if x ∈ out then out else out ++ [x]
/-- The state of Cat behind some puts: the map in block B, its cell in B + 1, the list's cell in B + 2, the list's own block from B + 3 on. -/
def CatSt (w W : World) (n : Nat) (out : List (List UInt8)) : Prop :=
  Blk W (w.heap.size + 1) 145 #[.map (some w.heap.size)] ∧ (∃ v, Blk W (w.heap.size + 2) 22 #[v] ∧ Own W (w.heap.size + 3) 9 v (wsv out)) ∧
  (∃ f, CMap W w.heap.size n f ∧ ∀ l, 0 ≤ f l ∧ f l ≤ n ∧ (f l = 0 ↔ l ∉ out)) ∧ Below w.heap.size w W ∧ w.heap.size + 3 ≤ W.heap.size

set_option maxHeartbeats 1000000 in
set_option maxRecDepth 8000 in
theorem cat1_any (w W : World) (n : Nat) (out : List (List UInt8)) (x : List UInt8) (h : CatSt w W n out) (hx : x.length ≤ 1000000000000) (hn : n ≤ 1000000000000) (ho : out.length ≤ 1000000) :
    Calls Try.prog 116 #[.string ⟨x.toArray⟩, .pointer (some ⟨w.heap.size + 1, 0, none⟩), .pointer (some ⟨w.heap.size + 2, 0, none⟩)] W fun e W' => e = .returned (.bool (decide ((putW out x).length ≤ 4096))) ∧ CatSt w W' (n + 1) (putW out x) := by
  obtain ⟨hm, ⟨v, hq, hown⟩, ⟨f, hcm, hf⟩, hb, hsz⟩ := h
  have hxs : (⟨x.toArray⟩ : ByteArray).size = x.length := by simp [ByteArray.size]
  have hxb : bl ⟨x.toArray⟩ = x := rfl
  have c1 := hm.cell 0
  have c2 := hq.cell 0
  have fz := hq.frozen 0
  have hlk := hcm.look ⟨x.toArray⟩ (by omega)
  rw [show (⟨x.toArray⟩ : ByteArray).data.toList = x from rfl] at hlk
  have hfx := hf x
  have hbl : w.heap.size + 2 < W.heap.size := by omega
  have hfb : 0 ≤ f x ∧ f x ≤ n := ⟨hfx.1, hfx.2.1⟩
  by_cases hin : x ∈ out
  · have hput : putW out x = out := if_pos hin
    have hne : f x ≠ 0 := fun e => hfx.2.2.1 e hin
    have hne' : (f x == 0) = false := by rw [beq_eq_false_iff_ne]; exact hne
    have wf : IntKind.i64.wrap (f x + 1) = f x + 1 := IntWalk.i64_in _ (by omega)
    obtain ⟨A, c, rfl, k1, k2, k3, k4⟩ := id hown.form
    rw [hput]
    have HS : Hid (Blk W (w.heap.size + 1) 145 #[.map (some w.heap.size)] ∧ Blk W (w.heap.size + 2) 22 #[.slice A (wsv out).length c] ∧ Own W (w.heap.size + 3) 9 (.slice A (wsv out).length c) (wsv out) ∧ Below w.heap.size w W) := ⟨hm, hq, hown, hb⟩
    have Hcm := hide hcm
    have Hf := hide hf
    have Hin := hide hin
    have hlen : (wsv out).length = out.length := by simp
    rw [hlen] at c2 HS
    clear hm hq hown hcm hf hb hfx k1 k2 k3 k4 hin hlen hne
    generalize hX : (⟨x.toArray⟩ : ByteArray) = X at hlk hxs
    have HX := hide hX
    clear hX hxb
    go_enter Try.func116, Try.ntmps116
    go_wp2_with (first | (at_mapUpdate; go_must (refine Hcm.out.wp_update rfl _ _ _ rfl rfl (by omega) X rfl (by omega) _ rfl (by omega) ?_); intro w1 hcm1 hg1; have c3 : w1.cell? ⟨w.heap.size + 2, 0, none⟩ = some (.slice A out.length c) := (HS.out.2.1.cellg hg1 (by omega) 0)) | go_in)
    all_goals
      go_ret
      refine ⟨ret_b (by rw [decide_eq_decide]; omega), HS.out.1.grown hg1 (by intro e; injection e; omega), ⟨_, HS.out.2.1.grown hg1 (by intro e; injection e; omega), ?_⟩, ⟨_, hcm1, fun l => ?_⟩, HS.out.2.2.2.grown hg1 HS.out.2.2.2.size (fun j hj => by cases hj; exact Nat.le_refl _), ?_⟩
      · exact World.ownsRow.kept (HS.out.2.2.1) hg1 (by
          rcases hob : (Value.slice A out.length c).ownBlock with _ | g
          · exact .inl rfl
          · refine .inr ?_
            have := HS.out.2.2.1.block g hob
            intro e; injection e; omega)
      · have h1 := Hf.out l
        have h2 := Hf.out x
        unfold upd
        have e : X.data.toList = x := by rw [← HX.out]
        rw [e]
        split
        · next e => subst e; exact ⟨by omega, by omega, fun h => by omega, fun h => absurd Hin.out h⟩
        · exact ⟨h1.1, by omega, h1.2.2⟩
      · have := hg1.size; omega
  · have hput : putW out x = out ++ [x] := if_neg hin
    have hf0 : f x = 0 := hfx.2.2.2 hin
    rw [hf0] at hlk
    rw [hput]
    have HS : Hid (Blk W (w.heap.size + 1) 145 #[.map (some w.heap.size)] ∧ Blk W (w.heap.size + 2) 22 #[v] ∧ Own W (w.heap.size + 3) 9 v (wsv out) ∧ Below w.heap.size w W) := ⟨hm, hq, hown, hb⟩
    have Hcm := hide hcm
    have Hf := hide hf
    have Hin := hide hin
    have hlen : (wsv out).length = out.length := by simp
    have hl2 : (out ++ [x]).length = out.length + 1 := by simp
    rw [hl2]
    have hvb := hide (hown.block)
    have hfx0 := hf0
    clear hm hq hown hcm hf hb hfx hin hl2 hf0 hfb
    generalize hX : (⟨x.toArray⟩ : ByteArray) = X at hlk hxs
    have hXd : X.data.toList = x := by rw [← hX]
    have hl3 : (wsv out ++ [Value.string X]).length = out.length + 1 := by simp
    have HX := hide hX
    clear hX hxb
    go_enter Try.func116, Try.ntmps116
    go_wp2_with (first
      | (at_builtin; go_must (refine wp_push W _ rfl _ _ _ rfl (w.heap.size + 3) 9 (.string ByteArray.empty) 16 Try.underlying22 infoS rfl _ _ rfl HS.out.2.2.1 (.string X) ⟨_, rfl, by simp⟩ rfl (by omega) ((Below.refl _ _).mono (by omega)) (by omega) (by decide) ?_);
         intro v' w1 h1 h2 h3 h4;
         obtain ⟨A, c, rfl, -, -, -, -⟩ := id h1.form;
         rw [hl3] at h1;
         rw [hl3];
         have c1' : w1.cell? ⟨w.heap.size + 1, 0, none⟩ = some (.map (some w.heap.size)) := (h2.cell (p := ⟨w.heap.size + 1, 0, none⟩) (by show w.heap.size + 1 < _; omega)).trans c1;
         have hq1 := HS.out.2.1.below h2 (by omega);
         have c2' : w1.cell? ⟨w.heap.size + 2, 0, none⟩ = some v := hq1.cell 0;
         have fz' := hq1.frozen 0;
         have Hq1 := hide hq1;
         have H1 := hide h1; have H2 := hide h2;
         have hcm2 := (Hcm.out.below h2 (by omega)).setCell (a := ⟨w.heap.size + 2, 0, none⟩) (by show w.heap.size ≠ w.heap.size + 2; omega) (.slice A (out.length + 1) c);
         have hlk2 := hcm2.look X (by omega);
         rw [hXd, hfx0] at hlk2;
         have Hcm2 := hide hcm2;
         clear h1 h2 h3 h4 hq1 hcm2)
      | (at_mapUpdate; go_must (refine Hcm2.out.wp_update rfl _ _ _ rfl rfl (by omega) X rfl (by omega) _ rfl (by omega) ?_); intro w3 hcm3 hg3;
         have c4 : w3.cell? ⟨w.heap.size + 2, 0, none⟩ = some (.slice A (out.length + 1) c) := (Hq1.out.set_ 0 (.slice A (out.length + 1) c)).cellg hg3 (by omega) 0) | go_in)
    all_goals
      go_ret
      refine ⟨ret_b (by rw [decide_eq_decide]; omega), ?_, ⟨_, (Hq1.out.set_ 0 (.slice A (out.length + 1) c)).grown hg3 (by intro e; injection e; omega), ?_⟩, ⟨_, hcm3, fun l => ?_⟩, ?_, ?_⟩
      · exact ((HS.out.1.below H2.out (by omega)).far (by show w.heap.size + 1 ≠ w.heap.size + 2; omega) _).grown hg3 (by intro e; injection e; omega)
      · have e0 : wsv (out ++ [x]) = wsv out ++ [Value.string X] := by rw [← HX.out]; simp [Proofs.encStr]
        have hob := H1.out.block
        have g1 := Grown.set (World.grownBy.refl w1 (some (w.heap.size + 2))) 0 (.slice A (out.length + 1) c)
        have k1 := World.ownsRow.kept H1.out g1 (by
          rcases hob1 : (Value.slice A (out.length + 1) c).ownBlock with _ | g
          · exact .inl rfl
          · refine .inr ?_
            have := hob g hob1
            intro e; injection e; omega)
        have k2 := World.ownsRow.kept k1 hg3 (by
          rcases hob1 : (Value.slice A (out.length + 1) c).ownBlock with _ | g
          · exact .inl rfl
          · refine .inr ?_
            have := hob g hob1
            intro e; injection e; omega)
        rw [e0]
        exact k2
      · have h1 := Hf.out l
        unfold upd
        rw [hXd]
        split
        · next e => subst e; exact ⟨by omega, by omega, fun h => by omega, fun h => absurd (by simp) h⟩
        · next e => exact ⟨h1.1, by omega, h1.2.2.trans (by simp [e])⟩
      · exact (Below.set (HS.out.2.2.2.trans (H2.out.mono (by omega))) (w.heap.size + 2) 0 (by omega) _).grown hg3 (by have := H2.out.size; simp; omega) (fun j hj => by cases hj; exact Nat.le_refl _)
      · have h1 := hg3.size
        have h2 := H2.out.size
        have h3 : (w1.setCell ⟨w.heap.size + 2, 0, none⟩ (.slice A (out.length + 1) c)).heap.size = w1.heap.size := by simp
        omega
end Go.Proofs.Ythpjjlmgdalpaaa
