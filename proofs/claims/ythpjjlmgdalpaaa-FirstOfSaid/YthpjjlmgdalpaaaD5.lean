/- first.Sets: the walk. -/
import Derived.Test.YthpjjlmgdalpaaaD4
import Derived.Deep.LoopGhost
namespace Go.Proofs.Ythpjjlmgdalpaaa
open Go.RowKit

theorem infoSS : (Try.prog.info? 22).map (fun i => (i.zero, i.size, i.bytes)) = some (some (.slice none 0 0), 1, 24) := by kernel_rfl
theorem make_sets (w : World) (n : Nat) (h : n ≤ 1000000) : (Instr.makeSlice 41 (.int .i64 (n : Int)) (.int .i64 (n : Int))).run Try.prog w = .ok (.slice (some ⟨w.heap.size, 0, none⟩) n n) (w.alloc (.cells (List.replicate n (Value.slice none 0 0)).toArray 22)) := by
  obtain ⟨i0, hi, hz0, hz2, hz3⟩ := info_parts infoSS
  have := run_make (P := Try.prog) w 41 22 i0 (.slice none 0 0) Try.underlying41 hi hz0 .i64 .i64 n n (by omega) (by omega) (by rw [hz3]; omega) (by omega)
  rw [this, hz2, Int.toNat_natCast, Nat.mul_one]
  simp only [Value.cells]
  rw [made_one]

def LInv (n : Nat) (L : LS) : Prop := AllAsc L ∧ L.length = n ∧ ∀ l ∈ L, l.length ≤ 4096
theorem total_le (L : LS) (h : ∀ l ∈ L, l.length ≤ 4096) : total L ≤ L.length * 4096 := by
  induction L with
  | nil => simp [total]
  | cons a L ih =>
    have h1 := h a (.head _)
    have h2 := ih fun l hl => h l (.tail _ hl)
    unfold total at *
    simp only [List.map_cons, List.sum_cons, List.length_cons]
    omega
theorem step1_inv {k n : Nat} {L L' : LS} {gr gr' : Bool} {r : Rule} (h : step1 k (L, gr) r = some (L', gr')) (hr0 : 0 ≤ r.left) (hr : r.left < n) (hL : LInv n L) :
    LInv n L' ∧ total L ≤ total L' ∧ (gr' = true → gr = true ∨ total L < total L') := by
  obtain ⟨h1, h2, h3⟩ := hL
  obtain ⟨a, b, c, d, e⟩ := step1_total h (by omega) h1
  refine ⟨⟨a, by omega, fun l hl => ?_⟩, c, d⟩
  obtain ⟨i, hi, rfl⟩ := List.mem_iff_getElem.1 hl
  rcases e i hi with h | ⟨h', h⟩
  · exact h
  · rw [h]; exact h3 _ (List.getElem_mem h')

/-- What first.Sets answers. -/
def SetsPost (w : World) (k : Nat) (g : G) (e : Ending) (w' : World) : Prop :=
  (∃ r, SetsRes k g.rules (List.replicate g.names.length []) r ∧ match r with
    | some L => ∃ b, e = .returned (.tuple #[.slice (some ⟨b, 0, none⟩) g.names.length g.names.length, .int .i64 0]) ∧ SS w' b L ∧ L.length = g.names.length ∧ Sized L
    | none => e = .returned (.tuple #[.slice none 0 0, .int .i64 21])) ∧ Below w.heap.size w w'

theorem FSt.alloc {w W : World} {kb sb n k : Nat} {L : LS} {gr : Bool} (h : FSt w W kb sb n k L gr) (o : Obj) : FSt w (W.alloc o) kb sb n k L gr := by
  obtain ⟨a, b, c, d, e, f, g, i, j⟩ := h
  refine ⟨a.below ((Below.refl _ _).alloc (Nat.le_refl _) o), b, c, (World.cell?_alloc_lt W o _ (by show sb + 1 < _; omega)).trans d, e.alloc o, (World.cell?_alloc_lt W o _ (by show kb < _; omega)).trans f, g.alloc g.size o, i, by simp; omega⟩
theorem FSt.start (W : World) (kb n k : Nat) (hk : W.cell? ⟨kb, 0, none⟩ = some (.int .i64 k)) (hkb : kb < W.heap.size) :
    FSt W (((W.alloc (.cells (List.replicate n (Value.slice none 0 0)).toArray 22)).alloc (.cells #[.slice (some ⟨W.heap.size, 0, none⟩) n n] 41)).alloc (.cells #[.bool false] 4)) kb W.heap.size n k (List.replicate n []) false := by
  have s1 : (W.alloc (.cells (List.replicate n (Value.slice none 0 0)).toArray 22)).heap.size = W.heap.size + 1 := by simp
  have s2 : ((W.alloc (.cells (List.replicate n (Value.slice none 0 0)).toArray 22)).alloc (.cells #[.slice (some ⟨W.heap.size, 0, none⟩) n n] 41)).heap.size = W.heap.size + 2 := by simp
  have hb : Below W.heap.size W (((W.alloc (.cells (List.replicate n (Value.slice none 0 0)).toArray 22)).alloc (.cells #[.slice (some ⟨W.heap.size, 0, none⟩) n n] 41)).alloc (.cells #[.bool false] 4)) := (((Below.refl _ _).alloc (Nat.le_refl _) _).alloc (by omega) _).alloc (by omega) _
  refine ⟨⟨List.replicate n (Value.slice none 0 0), by simp, ((Blk.new W 22 _).alloc _).alloc _, fun i hi hi' => ?_⟩, by simp, fun l hl => ?_, ?_, ?_, (hb.cell (p := ⟨kb, 0, none⟩) hkb).trans hk, hb, hkb, by simp⟩
  · simp only [List.getElem_replicate]; exact Own.nil _ _ _
  · rw [(List.mem_replicate.1 hl).2]; exact ⟨by simp, by simp⟩
  · have := ((Blk.new (W.alloc (.cells (List.replicate n (Value.slice none 0 0)).toArray 22)) 41 #[.slice (some ⟨W.heap.size, 0, none⟩) n n]).alloc (.cells #[.bool false] 4)).cell 0
    rw [s1] at this; exact this
  · have := Blk.new ((W.alloc (.cells (List.replicate n (Value.slice none 0 0)).toArray 22)).alloc (.cells #[.slice (some ⟨W.heap.size, 0, none⟩) n n] 41)) 4 #[.bool false]
    rw [s2] at this; exact this
theorem FSt.reset {w W : World} {kb sb n k : Nat} {L : LS} {gr : Bool} (h : FSt w W kb sb n k L gr) (hwb : w.heap.size ≤ sb) (u : Bool) : FSt w (W.setCell ⟨sb + 2, 0, none⟩ (.bool u)) kb sb n k L u := by
  obtain ⟨a, b, c, d, e, f, g, i, j⟩ := h
  refine ⟨a.gset _, b, c, ?_, by simpa using e.set_ 0 (.bool u), ?_, Below.set g _ _ (by omega) _, i, by simpa using j⟩
  · rw [World.cell?_setCell_other _ _ _ _ (by intro e; injection e with e; omega)]; exact d
  · rw [World.cell?_setCell_other _ _ _ _ (by intro e; injection e with e; omega)]; exact f

set_option maxHeartbeats 4000000 in
set_option maxRecDepth 8000 in
theorem fsets_any (v : GV) (g : G) (k : Nat) (w : World) (hg : GAt w w.heap.size v g) (hw : WM g) (hk1 : 1 ≤ k) (hk : k ≤ 4) :
    Calls Try.prog 25 #[.agg #[.slice v.An g.names.length v.cn, .slice v.At g.terms.length v.ct, .slice v.Ar g.rules.length v.cr], .int .i64 k] w (SetsPost w k g) := by
  have eg := enters_of Try.func71 (by kernel_rfl) rfl
  have hsm : g.names.length ≤ 1000000 ∧ g.terms.length ≤ 1000000 := by have := hw.vg.sy; omega
  have hn1 := hw.vg.n1
  have HG := hide hg
  have HV := hide hw.vg
  have hr := hg.hr
  have hmk := fun W => make_sets W g.names.length hsm.1
  have Hb0 := hide (Bx.self (w := w) (cs := #[.slice v.An g.names.length v.cn, .slice v.At g.terms.length v.ct, .slice v.Ar g.rules.length v.cr]) (T := 25))
  have Hb1 : Hid (Bx w #[.slice v.An g.names.length v.cn, .slice v.At g.terms.length v.ct, .slice v.Ar g.rules.length v.cr] 25 ((w.alloc (.cells #[.slice v.An g.names.length v.cn, .slice v.At g.terms.length v.ct, .slice v.Ar g.rules.length v.cr] 25)).alloc (.cells #[.int .i64 k] 3))) := Hb0.out.alloc _
  have HC1 : Hid (Calls Try.prog 62 #[.agg #[.slice v.An g.names.length v.cn, .slice v.At g.terms.length v.ct, .slice v.Ar g.rules.length v.cr]] ((w.alloc (.cells #[.slice v.An g.names.length v.cn, .slice v.At g.terms.length v.ct, .slice v.Ar g.rules.length v.cr] 25)).alloc (.cells #[.int .i64 k] 3)) fun e w' => e = .returned (.int .i64 0) ∧ Below ((w.alloc (.cells #[.slice v.An g.names.length v.cn, .slice v.At g.terms.length v.ct, .slice v.Ar g.rules.length v.cr] 25)).alloc (.cells #[.int .i64 k] 3)).heap.size ((w.alloc (.cells #[.slice v.An g.names.length v.cn, .slice v.At g.terms.length v.ct, .slice v.Ar g.rules.length v.cr] 25)).alloc (.cells #[.int .i64 k] 3)) w') :=
    (check_any v g _ (HG.out.bx Hb1.out) hsm).mono fun e w' ⟨⟨n, h1, h2⟩, h3⟩ => ⟨by rw [h1, h2.2 hw], h3⟩
  clear hg hw
  obtain ⟨An, cn, At, ct, Ar, cr⟩ := v
  dsimp only at Hb0 Hb1 HC1 hr HG
  go_enter Try.func25, Try.ntmps25
  go_wp2_with fail
  go_step3
  go_wp2_with (go_at_call 62; refine HC1.out.mono ?_; rintro e W1 ⟨rfl, hb1⟩; have Hb2 := hide (Hb1.out.call hb1); have cG1 := Hb2.out.cell; have hl1 := Hb2.out.lt; have hl2 := hb1.size; have cK : W1.cell? ⟨w.heap.size + 1, 0, none⟩ = some (.int .i64 k) := (hb1.cell (p := ⟨w.heap.size + 1, 0, none⟩) (by simp)).trans (by simp); clear hb1 HC1)
  all_goals first | (exfalso; omega) | skip
  go_step3
  go_wp2_with fail
  have hX0 := FSt.start W1 (w.heap.size + 1) g.names.length k cK (by simp at hl2; omega)
  clear hmk
  have HX0 := hide hX0
  clear hX0
  go_loopg [30] (g.names.length * 4096) (fun gk _ V => ∃ W, W = V ∧ ∃ (L : LS) (gr : Bool), FSt W1 W (w.heap.size + 1) W1.heap.size g.names.length k L gr ∧ LInv g.names.length L ∧ gk = g.names.length * 4096 - total L ∧ Hid (∀ r, SetsRes k g.rules L r → SetsRes k g.rules (List.replicate g.names.length []) r))
  case atStart =>
    refine ⟨_, rfl, List.replicate g.names.length [], false, by simpa using HX0.out, ⟨fun l hl => ?_, by simp, fun l hl => ?_⟩, by simp [total], fun r h => h⟩
    · rw [(List.mem_replicate.1 hl).2]; exact List.Pairwise.nil
    · rw [(List.mem_replicate.1 hl).2]; simp
  case round =>
    clear HX0
    obtain ⟨W, rfl, L, gr, hF, hI, hgk, hR⟩ := hrel
    have cG := fun i => (hF.2.2.2.2.2.2.1.cell (p := ⟨w.heap.size, i, none⟩) (by show w.heap.size < _; omega)).trans (cG1 i)
    have d1 := hF.2.2.2.2.1.cell 0
    have d2 := hF.2.2.2.2.1.frozen 0
    have hsz := hF.2.2.2.2.2.2.2.2
    have hsz0 : w.heap.size < W.heap.size := by omega
    have HF := hide (hF.reset (Nat.le_refl _) false)
    clear hF
    go_wp2_with fail
    clear d1 d2
    go_loopw [30] (fun y V => ∃ U, U = V ∧ ∃ (i : Nat) (L' : LS) (gr' : Bool), i ≤ g.rules.length ∧ y = .int .i64 i ∧ FSt W1 U (w.heap.size + 1) W1.heap.size g.names.length k L' gr' ∧ LInv g.names.length L' ∧ total L ≤ total L' ∧ (gr' = true → total L < total L') ∧ Hid (roundF k g.rules (L, false) = roundF k (g.rules.drop i) (L', gr'))) (fun y _ => g.rules.length - (intOf y).toNat)
    case atStart => exact ⟨_, rfl, 0, L, false, by omega, rfl, HF.out, hI, Nat.le_refl _, (fun h => by cases h), rfl⟩
    case round =>
      clear HF cG hsz0 hsz
      obtain ⟨U, rfl, i, L', gr', hi, rfl, hF, hI', hT, hG', hRf⟩ := hrel
      have cG := fun i => (hF.2.2.2.2.2.2.1.cell (p := ⟨w.heap.size, i, none⟩) (by show w.heap.size < _; omega)).trans (cG1 i)
      have hbU : Below w.heap.size w U := Hb2.out.below.trans (hF.2.2.2.2.2.2.1.mono (by omega))
      by_cases hlt : i < g.rules.length
      · obtain ⟨b, off, rfl, hb, C, c, k1, k2, k3, k4⟩ := HG.out.r.at_ hlt
        have c1 := (hbU.cell hb).trans k1
        have c2 := (hbU.cell hb).trans k2
        have hsU := hbU.size
        obtain ⟨f1, f2, f3, f4⟩ := HV.out.ru _ (List.getElem_mem hlt)
        have Hc := hide (fsets1_any W1 (U.alloc (.cells #[.int .i64 g.rules[i].left, .slice C g.rules[i].right.length c] 35)) (w.heap.size + 1) W1.heap.size g.names.length k L' gr' g.rules[i] C c (hF.alloc _) (Nat.le_refl _) (by omega) ((k4.below (hbU.alloc hsU _)).more (by simp; omega)) k3 f1 f2 f3 (fun s hs => by have := f4 s hs; omega) hsm.1)
        have hst : roundF k (g.rules.drop i) (L', gr') = match step1 k (L', gr') g.rules[i] with
            | none => none
            | some s' => roundF k (g.rules.drop (i + 1)) s' := by
          rw [List.drop_eq_getElem_cons hlt]; rfl
        have hbU1 := hide hF.2.2.2.2.2.2.1
        clear hF k1 k2 k3 k4
        rcases hs1 : step1 k (L', gr') g.rules[i] with _ | ⟨L2, gr2⟩
        · rw [hs1] at hst Hc
          have Hres := hide (hR.out none (.limit (hRf.out.trans hst)))
          have Hc2 : Hid (Calls Try.prog 71 #[.agg #[.int .i64 g.rules[i].left, .slice C g.rules[i].right.length c], .pointer (some ⟨W1.heap.size + 1, 0, none⟩), .pointer (some ⟨w.heap.size + 1, 0, none⟩), .pointer (some ⟨W1.heap.size + 2, 0, none⟩)] (U.alloc (.cells #[.int .i64 g.rules[i].left, .slice C g.rules[i].right.length c] 35)) fun e W' => e = .returned (.bool false) ∧ Below W1.heap.size W1 W') := Hc.out
          clear hst hs1 Hc
          go_wp2_with ((with_reducible refine calls_id ?_); refine Hc2.out.mono ?_; rintro e w3 ⟨rfl, hb3⟩)
          all_goals first | (exfalso; omega) | skip
          try rw [Exit.noGoto_ret]
          go_ret2
          exact ⟨⟨none, Hres.out, rfl⟩, Hb2.out.below.trans (hb3.mono (by omega))⟩
        · rw [hs1] at hst Hc
          simp only at hst
          obtain ⟨q1, q2, q3⟩ := step1_inv hs1 f1 f2 hI'
          have Hst := hide (hRf.out.trans hst)
          have Hc2 : Hid (Calls Try.prog 71 #[.agg #[.int .i64 g.rules[i].left, .slice C g.rules[i].right.length c], .pointer (some ⟨W1.heap.size + 1, 0, none⟩), .pointer (some ⟨w.heap.size + 1, 0, none⟩), .pointer (some ⟨W1.heap.size + 2, 0, none⟩)] (U.alloc (.cells #[.int .i64 g.rules[i].left, .slice C g.rules[i].right.length c] 35)) fun e W' => e = .returned (.bool true) ∧ FSt W1 W' (w.heap.size + 1) W1.heap.size g.names.length k L2 gr2) := Hc.out
          clear hst hs1 Hc
          go_wp2_with ((with_reducible refine calls_id ?_); refine Hc2.out.mono ?_; rintro e w3 ⟨rfl, hF3⟩)
          all_goals first | (exfalso; omega) | skip
          go_roundw
          case rel => exact ⟨_, rfl, i + 1, L2, gr2, by omega, by go_num, hF3, q1, by omega, fun h => by rcases q3 h with h | h; have := hG' h; omega; omega, Hst.out⟩
          case measure => simp [intOf]; omega
      · obtain rfl : i = g.rules.length := by omega
        have hrf := hRf.out
        rw [List.drop_length] at hrf
        have Hrf := hide hrf
        have d1 := hF.2.2.2.2.1.cell 0
        have d4 := hF.2.2.2.1
        have HF := hide hF
        have htl := total_le L' hI'.2.2
        have hlen := hI'.2.1
        clear hrf hF
        cases gr' with
        | false =>
          have Hres := hide (hR.out (some L') (.stop Hrf.out))
          go_wp2_with fail
          all_goals first | (exfalso; omega) | skip
          try rw [Exit.noGoto_ret]
          go_ret2
          exact ⟨⟨some L', Hres.out, W1.heap.size, rfl, HF.out.1, HF.out.2.1, HF.out.2.2.1⟩, hbU⟩
        | true =>
          have hgt := hG' rfl
          have Hres : Hid (∀ r, SetsRes k g.rules L' r → SetsRes k g.rules (List.replicate g.names.length []) r) := fun r hr => hR.out r (.again Hrf.out hr)
          go_wp2_with fail
          all_goals first | (exfalso; omega) | skip
          go_roundg (g.names.length * 4096 - total L')
          case rel => exact ⟨_, rfl, L', true, HF.out, hI', rfl, Hres.out⟩
          case measure => omega
end Go.Proofs.Ythpjjlmgdalpaaa
