/- first.Sets' closure. -/
import Derived.Test.YthpjjlmgdalpaaaD2
namespace Go.Proofs.Ythpjjlmgdalpaaa
open Go.RowKit

/-- A rule's step: its nonterminal's set grows by the first set of its right side. -/
def step1 (k : Nat) (s : List (List (List UInt8)) × Bool) (r : Rule) : Option (List (List (List UInt8)) × Bool) :=
  match ofF k s.1 r.right [[]] with
  | none => none
  | some x => if (srt (s.1.getD r.left.toNat [] ++ x)).length ≤ 4096 then some (s.1.set r.left.toNat (srt (s.1.getD r.left.toNat [] ++ x)), s.2 || decide ((s.1.getD r.left.toNat []).length < (srt (s.1.getD r.left.toNat [] ++ x)).length)) else none
def FSt (w W : World) (kb sb n k : Nat) (L : List (List (List UInt8))) (gr : Bool) : Prop :=
  SS W sb L ∧ L.length = n ∧ Sized L ∧ W.cell? ⟨sb + 1, 0, none⟩ = some (.slice (some ⟨sb, 0, none⟩) n n) ∧ Blk W (sb + 2) 4 #[.bool gr] ∧ W.cell? ⟨kb, 0, none⟩ = some (.int .i64 k) ∧ Below w.heap.size w W ∧ kb < sb ∧ sb + 2 < W.heap.size
theorem ofF_words (k : Nat) (hk : k ≤ 1000) (L : List (List (List UInt8))) : ∀ (syms : List Int) (out x : List (List UInt8)), Words out → ofF k L syms out = some x → Words x := by
  intro syms
  induction syms with
  | nil => intro out x h e; injection e with e; subst e; exact h
  | cons s r ih =>
    intro out x h e
    unfold ofF at e
    split at e
    · cases e
    · split at e
      · next hD => exact ih _ _ (prodL_words k hk _ _ hD) e
      · cases e
theorem SS.bset {W : World} {b : Nat} {L : List (List (List UInt8))} (h : SS W b L) (l : Nat) (v : Value) (x : List (List UInt8)) (hv : Own W (b + 3) 9 v (wsv x)) : SS (W.setCell ⟨b, l, none⟩ v) b (L.set l x) := by
  obtain ⟨vs, h1, h2, h3⟩ := h
  refine ⟨vs.set l v, by simp [h1], ?_, fun i hi hi' => ?_⟩
  · have := h2.set_ l v
    simpa using this
  · have hk : ∀ (u : Value) (xs : List Value), Own W (b + 3) 9 u xs → Own (W.setCell ⟨b, l, none⟩ v) (b + 3) 9 u xs := fun u xs ho =>
      World.ownsRow.kept ho (Grown.set (World.grownBy.refl W (some b)) l v) (by
        rcases hob : u.ownBlock with _ | g
        · exact .inl rfl
        · refine .inr ?_
          have := (Own.block ho) g hob
          intro e; injection e; omega)
    by_cases e : l = i
    · subst e
      simp only [List.getElem_set_self]
      exact hk _ _ hv
    · have hi2 : i < L.length := by simpa using hi
      have hi3 : i < vs.length := by simpa using hi'
      simp only [List.getElem_set_ne e]
      exact hk _ _ (h3 i hi2 hi3)
theorem SS.gset {W : World} {b : Nat} {L : List (List (List UInt8))} (h : SS W b L) (u : Value) : SS (W.setCell ⟨b + 2, 0, none⟩ u) b L := by
  obtain ⟨vs, h1, h2, h3⟩ := h
  refine ⟨vs, h1, h2.far (by show b ≠ b + 2; omega) u, fun i hi hi' => ?_⟩
  exact World.ownsRow.kept (h3 i hi hi') (Grown.set (World.grownBy.refl W (some (b + 2))) 0 u) (by
    rcases hob : vs[i].ownBlock with _ | g
    · exact .inl rfl
    · refine .inr ?_
      have := (Own.block (h3 i hi hi')) g hob
      intro e; injection e; omega)

theorem SS.frozen {W : World} {b : Nat} {L : List (List (List UInt8))} (h : SS W b L) (i : Nat) : W.frozen? ⟨b, i, none⟩ = false := let ⟨_, _, h2, _⟩ := h; h2.frozen i

theorem fst_next {w W : World} {kb sb n k l : Nat} {L : List (List (List UInt8))} {gr u : Bool} {all : List (List UInt8)} {y : Value} (hS : SS W sb L) (hLn : L.length = n) (hSz : Sized L) (hsc : W.cell? ⟨sb + 1, 0, none⟩ = some (.slice (some ⟨sb, 0, none⟩) n n))
    (hgc : Blk W (sb + 2) 4 #[.bool gr]) (hkc : W.cell? ⟨kb, 0, none⟩ = some (.int .i64 k)) (hb : Below w.heap.size w W) (hks : kb < sb) (hsz : sb + 2 < W.heap.size) (hwb : w.heap.size ≤ sb) (hy : Own W (sb + 3) 9 y (wsv all)) (hall : Words all) :
    FSt w ((W.setCell ⟨sb + 2, 0, none⟩ (.bool u)).setCell ⟨sb, l, none⟩ y) kb sb n k (L.set l all) u := by
  have hy2 : Own (W.setCell ⟨sb + 2, 0, none⟩ (.bool u)) (sb + 3) 9 y (wsv all) :=
    World.ownsRow.kept hy (Grown.set (World.grownBy.refl W (some (sb + 2))) 0 _) (by
      rcases hob : y.ownBlock with _ | g
      · exact .inl rfl
      · refine .inr ?_
        have := (Own.block hy) g hob
        intro e; injection e; omega)
  refine ⟨(hS.gset (.bool u)).bset l y all hy2, by simpa using hLn, ?_, ?_, ?_, ?_, Below.set (Below.set hb (sb + 2) 0 (by omega) _) sb l (by omega) _, hks, by simpa using hsz⟩
  · intro z hz
    rcases List.mem_or_eq_of_mem_set hz with h | rfl
    · exact hSz z h
    · exact hall
  · rw [World.cell?_setCell_other _ _ _ _ (by intro e; injection e with e; omega), World.cell?_setCell_other _ _ _ _ (by intro e; injection e with e; omega)]
    exact hsc
  · exact (hgc.set_ 0 (.bool u)).far (by show sb + 2 ≠ sb; omega) _
  · rw [World.cell?_setCell_other _ _ _ _ (by intro e; injection e with e; omega), World.cell?_setCell_other _ _ _ _ (by intro e; injection e with e; omega)]
    exact hkc

set_option maxHeartbeats 2000000 in
set_option maxRecDepth 8000 in
theorem fsets1_any (w W : World) (kb sb n k : Nat) (L : List (List (List UInt8))) (gr : Bool) (r : Rule) (C : Option Addr) (c : Nat) (h : FSt w W kb sb n k L gr) (hwb : w.heap.size ≤ sb) (hk : k ≤ 1000) (hC : SlAt W W.heap.size C (ints r.right)) (hc : r.right.length ≤ c)
    (h0 : 0 ≤ r.left) (h1 : r.left < n) (h2 : r.right.length ≤ 64) (h3 : ∀ s ∈ r.right, -1000000 ≤ s ∧ s ≤ 1000000) (hn : n ≤ 1000000) :
    Calls Try.prog 71 #[.agg #[.int .i64 r.left, .slice C r.right.length c], .pointer (some ⟨sb + 1, 0, none⟩), .pointer (some ⟨kb, 0, none⟩), .pointer (some ⟨sb + 2, 0, none⟩)] W fun e W' =>
      match step1 k (L, gr) r with
      | some s => e = .returned (.bool true) ∧ FSt w W' kb sb n k s.1 s.2
      | none => e = .returned (.bool false) ∧ Below w.heap.size w W' := by
  obtain ⟨hS, hLn, hSz, hsc, hgc, hkc, hb, hks, hsz⟩ := h
  obtain ⟨rl, rr⟩ := r
  dsimp only at *
  obtain ⟨l, rfl⟩ := Int.eq_ofNat_of_zero_le h0
  have hsz1 : sb + 1 < W.heap.size := by omega
  have hkW : kb < W.heap.size := by omega
  have hll : l < L.length := by omega
  have hW0 : Below W.heap.size W (W.alloc (.cells #[.int .i64 (l : Int), .slice C rr.length c] 35)) := (Below.refl _ _).alloc (Nat.le_refl _) _
  have s0 : (W.alloc (.cells #[.int .i64 (l : Int), .slice C rr.length c] 35)).heap.size = W.heap.size + 1 := by simp
  have Hof := hide (fof_any k hk sb L C c rr (W.alloc (.cells #[.int .i64 (l : Int), .slice C rr.length c] 35)) (hS.below hW0) (by omega) hSz ((hC.below hW0).more (by omega)) hc (by omega) h3)
  rw [hLn] at Hof
  have HH := hide (And.intro hS (And.intro hSz (And.intro hgc hb)))
  have Hbk := hide (Blk.new W 35 #[.int .i64 (l : Int), .slice C rr.length c])
  have HW0 := hide hW0
  have hst : step1 k (L, gr) ⟨(l : Int), rr⟩ = match ofF k L rr [[]] with
      | none => none
      | some x => if (srt (L[l] ++ x)).length ≤ 4096 then some (L.set l (srt (L[l] ++ x)), gr || decide (L[l].length < (srt (L[l] ++ x)).length)) else none := by
    unfold step1
    have e : L.getD (l : Int).toNat [] = L[l] := by simp [List.getD, hll]
    simp only [e]
    rfl
  have Hwd := hide (ofF_words k hk L rr [[]])
  clear hS hSz hgc hb hC hW0 h3
  cases hof : ofF k L rr [[]] with
  | none =>
    rw [hof] at hst Hof
    rw [hst]
    have Hof2 : Hid (Calls Try.prog 30 #[.slice (some ⟨sb, 0, none⟩) n n, .int .i64 k, .slice C rr.length c] (W.alloc (.cells #[.int .i64 (l : Int), .slice C rr.length c] 35)) fun e w' => e = .returned (.tuple #[.slice none 0 0, .bool false]) ∧ Below (W.alloc (.cells #[.int .i64 (l : Int), .slice C rr.length c] 35)).heap.size (W.alloc (.cells #[.int .i64 (l : Int), .slice C rr.length c] 35)) w') := Hof.out
    clear hst Hof hof
    go_enter Try.func71, Try.ntmps71
    go_wp2_with (go_at_call 30; refine Hof2.out.mono ?_; rintro e w1 ⟨rfl, hb1⟩)
    go_ret
    exact ⟨rfl, (HH.out.2.2.2.alloc HH.out.2.2.2.size _).trans (hb1.mono (by have := HH.out.2.2.2.size; omega))⟩
  | some x =>
    rw [hof] at hst Hof
    simp only at hst
    have hxw := Hwd.out x ⟨by simp, by simp⟩ hof
    have Hof2 : Hid (Calls Try.prog 30 #[.slice (some ⟨sb, 0, none⟩) n n, .int .i64 k, .slice C rr.length c] (W.alloc (.cells #[.int .i64 (l : Int), .slice C rr.length c] 35)) fun e w' => (∃ x', e = .returned (.tuple #[x', .bool true]) ∧ SV w' w'.heap.size x' (wsv x)) ∧ Below (W.alloc (.cells #[.int .i64 (l : Int), .slice C rr.length c] 35)).heap.size (W.alloc (.cells #[.int .i64 (l : Int), .slice C rr.length c] 35)) w') := Hof.out
    have hLl : L[l].length ≤ 5000 := (HH.out.2.1 _ (List.getElem_mem hll)).1
    obtain ⟨all, hall⟩ : ∃ all, all = srt (L[l] ++ x) := ⟨_, rfl⟩
    rw [← hall] at hst
    have Hall := hide hall
    have Hst := hide hst
    rw [hst]
    have hxl := hxw.1
    clear hst Hof hof Hwd hall
    have HU : Hid (∀ (W1 : World) (v xv : Value), Below (W.alloc (.cells #[.int .i64 (l : Int), .slice C rr.length c] 35)).heap.size (W.alloc (.cells #[.int .i64 (l : Int), .slice C rr.length c] 35)) W1 → Own W1 (sb + 3) 9 v (wsv L[l]) → SV W1 W1.heap.size xv (wsv x) →
        Calls Try.prog 72 #[.slice (some ⟨W1.heap.size, 0, none⟩) 2 2] (W1.alloc (.cells #[v, xv] 22)) fun e w' => (∃ y, e = .returned y ∧ Own w' (sb + 3) 9 y (wsv all)) ∧ Below W1.heap.size W1 w') := by
      intro W1 v xv hb1 hv hx
      have hA : Below W1.heap.size W1 (W1.alloc (.cells #[v, xv] 22)) := (Below.refl _ _).alloc (Nat.le_refl _) _
      have hs1 : (W1.alloc (.cells #[v, xv] 22)).heap.size = W1.heap.size + 1 := by simp
      have hs2 := hb1.size
      refine (union2_any v xv L[l] x W1.heap.size (W1.alloc (.cells #[v, xv] 22)) ((SV.of_own hv).call hA) (hx.call hA) (by omega) (by omega) ((Blk.new W1 _ _).cell 0) ((Blk.new W1 _ _).cell 1) (by omega)).mono ?_
      rintro e w' ⟨⟨y, rfl, ho⟩, hb2⟩
      rw [← Hall.out] at ho
      exact ⟨⟨y, rfl, ho.mono (by omega)⟩, hA.trans (hb2.mono (by omega))⟩
    by_cases hfull : all.length ≤ 4096
    · rw [if_pos hfull]
      simp only
      have hallw : Hid (Words all) := by
        refine ⟨by omega, fun z hz => ?_⟩
        rw [Hall.out, srt_mem, List.mem_append] at hz
        rcases hz with hz | hz
        · exact (HH.out.2.1 _ (List.getElem_mem hll)).2 z hz
        · exact hxw.2 z hz
      go_enter Try.func71, Try.ntmps71
      go_wp2_with (first
        | (go_at_call 30; refine Hof2.out.mono ?_; rintro e w1 ⟨⟨xv, rfl, hxv⟩, hb1⟩;
           have hW1 : Below W.heap.size W w1 := HW0.out.trans (hb1.mono (by omega));
           have hS1 := HH.out.1.below hW1;
           obtain ⟨v, hv1, hv2⟩ := hS1.at_ l hll;
           obtain ⟨Av, cv, rfl, -, -, -, -⟩ := id hv2.form;
           obtain ⟨Ax, cx, rfl, -, -, -, -⟩ := id hxv;
           have hxl2 : (wsv x).length = x.length := by simp;
           rw [hxl2] at hxv;
           have hvl : (wsv L[l]).length = L[l].length := by simp;
           rw [hvl] at hv1 hv2;
           have HU1 := hide (HU.out w1 _ _ hb1 hv2 hxv);
           have d1 : w1.cell? ⟨sb + 1, 0, none⟩ = some (.slice (some ⟨sb, 0, none⟩) n n) := (hW1.cell (p := ⟨sb + 1, 0, none⟩) hsz1).trans hsc;
           have HW1 := hide hW1; have hw1s := hW1.size; have hw1t : W.heap.size < w1.heap.size := (by have := hb1.size; omega);
           have cR := (Hbk.out.below hb1 (by omega)).cell;
           have HS1 := hide hS1;
           clear hxv hb1 hW1 hS1 hv2)
        | (go_at_call 72; go_must (refine HU1.out.mono ?_); rintro e w2 ⟨⟨y, rfl, hy⟩, hb2⟩;
           obtain ⟨Ay, cy, rfl, -, -, -, -⟩ := id hy.form;
           have hyl : (wsv all).length = all.length := by simp;
           rw [hyl] at hy; try rw [hyl];
           have HY := hide hy; have HW2 := hide (HW1.out.trans (hb2.mono hw1s));
           have hw2s := HW2.out.size;
           have e1 : w2.cell? ⟨sb + 1, 0, none⟩ = some (.slice (some ⟨sb, 0, none⟩) n n) := (HW2.out.cell (p := ⟨sb + 1, 0, none⟩) hsz1).trans hsc;
           have e2 := (HH.out.2.2.1.below HW2.out hsz).cell 0;
           have e3 := (HH.out.2.2.1.below HW2.out hsz).frozen 0;
           have cR2 : ∀ i, w2.cell? ⟨W.heap.size, i, none⟩ = #[Value.int .i64 (l : Int), .slice C rr.length c][i]? := fun i => (hb2.cell (p := ⟨W.heap.size, i, none⟩) (by show W.heap.size < _; omega)).trans (cR i);
           have e4 : w2.cell? ⟨sb, l, none⟩ = some (.slice Av L[l].length cv) := (hb2.cell (p := ⟨sb, l, none⟩) (by show sb < _; omega)).trans hv1;
           have e5 := (HH.out.1.below HW2.out).frozen l;
           clear hy hb2))
      all_goals first | (exfalso; omega) | skip
      · go_ret
        have hb2 : Below w.heap.size w w2 := HH.out.2.2.2.trans (HW2.out.mono HH.out.2.2.2.size)
        have hkc2 : w2.cell? ⟨kb, 0, none⟩ = some (.int .i64 k) := (HW2.out.cell (p := ⟨kb, 0, none⟩) hkW).trans hkc
        refine ⟨ret_b (decide_eq_true (by omega)), ?_⟩
        have hgr : gr = true := by assumption
        have hu : (gr || decide (L[l].length < all.length)) = true := by rw [hgr]; rfl
        rw [hu]
        exact fst_next (HH.out.1.below HW2.out) hLn HH.out.2.1 e1 (HH.out.2.2.1.below HW2.out hsz) hkc2 hb2 hks (by omega) hwb HY.out hallw.out
      · go_ret
        have hb2 : Below w.heap.size w w2 := HH.out.2.2.2.trans (HW2.out.mono HH.out.2.2.2.size)
        have hkc2 : w2.cell? ⟨kb, 0, none⟩ = some (.int .i64 k) := (HW2.out.cell (p := ⟨kb, 0, none⟩) hkW).trans hkc
        refine ⟨ret_b (decide_eq_true (by omega)), ?_⟩
        have hgr : ¬ gr = true := by assumption
        have hu : (gr || decide (L[l].length < all.length)) = decide (L[l].length < all.length) := by
          cases gr
          · rfl
          · exact absurd rfl hgr
        rw [hu]
        exact fst_next (HH.out.1.below HW2.out) hLn HH.out.2.1 e1 (HH.out.2.2.1.below HW2.out hsz) hkc2 hb2 hks (by omega) hwb HY.out hallw.out
    · rw [if_neg hfull]
      go_enter Try.func71, Try.ntmps71
      go_wp2_with (first
        | (go_at_call 30; refine Hof2.out.mono ?_; rintro e w1 ⟨⟨xv, rfl, hxv⟩, hb1⟩;
           have hW1 : Below W.heap.size W w1 := HW0.out.trans (hb1.mono (by omega));
           have hS1 := HH.out.1.below hW1;
           obtain ⟨v, hv1, hv2⟩ := hS1.at_ l hll;
           obtain ⟨Av, cv, rfl, -, -, -, -⟩ := id hv2.form;
           obtain ⟨Ax, cx, rfl, -, -, -, -⟩ := id hxv;
           have hxl2 : (wsv x).length = x.length := by simp;
           rw [hxl2] at hxv;
           have hvl : (wsv L[l]).length = L[l].length := by simp;
           rw [hvl] at hv1 hv2;
           have HU1 := hide (HU.out w1 _ _ hb1 hv2 hxv);
           have d1 : w1.cell? ⟨sb + 1, 0, none⟩ = some (.slice (some ⟨sb, 0, none⟩) n n) := (hW1.cell (p := ⟨sb + 1, 0, none⟩) hsz1).trans hsc;
           have HW1 := hide hW1; have hw1s := hW1.size; have hw1t : W.heap.size < w1.heap.size := (by have := hb1.size; omega);
           have cR := (Hbk.out.below hb1 (by omega)).cell;
           have HS1 := hide hS1;
           clear hxv hb1 hW1 hS1 hv2)
        | (go_at_call 72; go_must (refine HU1.out.mono ?_); rintro e w2 ⟨⟨y, rfl, hy⟩, hb2⟩;
           obtain ⟨Ay, cy, rfl, -, -, -, -⟩ := id hy.form;
           have hyl : (wsv all).length = all.length := by simp;
           rw [hyl] at hy; try rw [hyl];
           have HY := hide hy; have HW2 := hide (HW1.out.trans (hb2.mono hw1s));
           have hw2s := HW2.out.size;
           have e1 : w2.cell? ⟨sb + 1, 0, none⟩ = some (.slice (some ⟨sb, 0, none⟩) n n) := (HW2.out.cell (p := ⟨sb + 1, 0, none⟩) hsz1).trans hsc;
           have e2 := (HH.out.2.2.1.below HW2.out hsz).cell 0;
           have e3 := (HH.out.2.2.1.below HW2.out hsz).frozen 0;
           have cR2 : ∀ i, w2.cell? ⟨W.heap.size, i, none⟩ = #[Value.int .i64 (l : Int), .slice C rr.length c][i]? := fun i => (hb2.cell (p := ⟨W.heap.size, i, none⟩) (by show W.heap.size < _; omega)).trans (cR i);
           have e4 : w2.cell? ⟨sb, l, none⟩ = some (.slice Av L[l].length cv) := (hb2.cell (p := ⟨sb, l, none⟩) (by show sb < _; omega)).trans hv1;
           have e5 := (HH.out.1.below HW2.out).frozen l;
           clear hy hb2))
      all_goals
        go_ret
        refine ⟨ret_b (decide_eq_false (by omega)), ?_⟩
        have hb2 : Below w.heap.size w w2 := HH.out.2.2.2.trans (HW2.out.mono HH.out.2.2.2.size)
        exact Below.set (Below.set hb2 (sb + 2) 0 (by omega) _) sb l (by omega) _
end Go.Proofs.Ythpjjlmgdalpaaa
