/- well.Reached, terms. -/
import Derived.Test.YthpjjlmgdalpaaaB19
namespace Go.Proofs.Ythpjjlmgdalpaaa
open Go.RowKit

set_option maxHeartbeats 1000000 in
set_option maxRecDepth 8000 in
theorem reached_any (v : GV) (g : G) (w : World) (hg : GAt w w.heap.size v g) (hv : VG g) :
    Calls Try.prog 104 #[.agg #[.slice v.An g.names.length v.cn, .slice v.At g.terms.length v.ct, .slice v.Ar g.rules.length v.cr]] w fun e w' => (∃ b, e = .returned (.slice (some ⟨b, 0, none⟩) g.names.length g.names.length) ∧ BB w' b (reachN g (g.names.length + 1))) ∧ Below w.heap.size w w' := by
  have eg := enters_of Try.func134 (by kernel_rfl) rfl
  have hsm : g.names.length ≤ 1000000 ∧ g.terms.length ≤ 1000000 := by have := hv.sy; omega
  have n1 := hv.n1
  have HG := hide hg
  have HV := hide hv
  have Hb0 := hide (Bx.self (w := w) (cs := #[.slice v.An g.names.length v.cn, .slice v.At g.terms.length v.ct, .slice v.Ar g.rules.length v.cr]) (T := 25))
  have HC1 := hide (valid_any v g _ (HG.out.bx Hb0.out) hsm)
  rw [bool_true hv] at HC1
  have HC3 : Hid (∀ (W : World) (b : Nat), w.heap.size < W.heap.size → GAt W w.heap.size v g → w.heap.size ≤ b → b < W.heap.size → BB W b ((List.replicate g.names.length false).set 0 true) → W.cell? ⟨b + 1, 0, none⟩ = some (.slice (some ⟨b, 0, none⟩) g.names.length g.names.length) → b + 1 < W.heap.size →
      Calls Try.prog 133 #[.agg #[.slice v.An g.names.length v.cn, .slice v.At g.terms.length v.ct, .slice v.Ar g.rules.length v.cr], .func (.func 134) #[] #[.pointer (some ⟨b + 1, 0, none⟩)]] W fun e W' => e = .returned (.tuple #[]) ∧ BB W' b (reachN g (g.names.length + 1)) ∧ W.grownBy W' (some b)) := by
    intro W b hsz hG hwb hbW hB hq hq2
    have := rounds_any 134 eg reachStep (fun P U => P.length = g.names.length ∧ BB U b P) ⟨b + 1, 0, none⟩ b w.heap.size v g W hG hwb hbW hsm.1 (fun P U o h => ⟨h.1, h.2.alloc o⟩)
      (fun r C c P U hr hgr hC hc h => by
        obtain ⟨f1, f2, f3, f4⟩ := HV.out.ru r hr
        have hU := hgr.size
        obtain ⟨hPl, hP⟩ := h
        have hq' : U.cell? ⟨b + 1, 0, none⟩ = some (.slice (some ⟨b, 0, none⟩) P.length P.length) := by
          rw [hPl]
          exact (World.cell?_of_block (a := ⟨b + 1, 0, none⟩) (hgr.block (b + 1) hq2 (by intro e; injection e; omega))).trans hq
        refine (reached1_any r C c (b + 1) 0 b P U hq' (by omega) (by omega) hP (hC.more (by omega)) (hC.more hwb) hc f1 (by omega) f3 (fun s hs => by have := (f4 s hs).1; omega) (by omega)).mono ?_
        rintro e W' ⟨rfl, h1, h2⟩
        exact ⟨rfl, ⟨(reachStep_len _ _).trans hPl, h1⟩, h2⟩)
      ((List.replicate g.names.length false).set 0 true) ⟨by simp, hB⟩
    rw [← reachN_eq] at this
    exact this.mono fun e W' ⟨h1, h2, h3⟩ => ⟨h1, h2.2, h3⟩
  have hmk := fun W => make_bools W g.names.length hsm.1
  have e00 : (Array.replicate g.names.length (Value.bool false))[0]? = some (.bool false) := by rw [Array.getElem?_replicate, if_pos (by omega)]
  clear hg hv eg
  obtain ⟨An, cn, At, ct, Ar, cr⟩ := v
  dsimp only at Hb0 HC1 HC3 HG
  go_enter Try.func104, Try.ntmps104
  go_wp2_with (go_at_call 55; refine HC1.out.mono ?_; rintro e W1 ⟨rfl, hb1⟩; have Hb1 := hide (Hb0.out.call hb1); have cG1 := Hb1.out.cell; have hl1 := Hb1.out.lt; clear hb1 HC1)
  clear hmk e00
  obtain ⟨X, hX⟩ : ∃ X, X = ((W1.alloc (Obj.cells ((Array.replicate g.names.length (Value.bool false)).setIfInBounds 0 (Value.bool true)) 4)).alloc (Obj.cells #[Value.slice (some { block := W1.heap.size, off := 0 }) g.names.length g.names.length] 59)) := ⟨_, rfl⟩
  rw [← hX]
  have hXb : Below W1.heap.size W1 X := by rw [hX]; exact ((Below.refl _ _).alloc (Nat.le_refl _) _).alloc (by simp) _
  have hXs : X.heap.size = W1.heap.size + 1 + 1 := by rw [hX]; simp
  have hXB : BB X W1.heap.size ((List.replicate g.names.length false).set 0 true) := by
    have := (Blk.new W1 4 ((Array.replicate g.names.length (Value.bool false)).setIfInBounds 0 (Value.bool true))).alloc (Obj.cells #[Value.slice (some { block := W1.heap.size, off := 0 }) g.names.length g.names.length] 59)
    have e : (bools ((List.replicate g.names.length false).set 0 true)).toArray = (Array.replicate g.names.length (Value.bool false)).setIfInBounds 0 (Value.bool true) := by
      apply Array.ext'; simp [List.map_set]
    unfold BB
    rw [e, hX]
    exact this
  have hXq : X.cell? ⟨W1.heap.size + 1, 0, none⟩ = some (.slice (some ⟨W1.heap.size, 0, none⟩) g.names.length g.names.length) := by
    rw [hX]
    simp
  have hXw : Below w.heap.size w X := Hb1.out.below.trans (hXb.mono (by omega))
  have HC4 := hide (HC3.out X W1.heap.size (by omega) (HG.out.below hXw) (by omega) (by omega) hXB hXq (by omega))
  refine HC4.out.mono ?_
  rintro e W3 ⟨rfl, hB3, hg3⟩
  have cq : W3.cell? ⟨W1.heap.size + 1, 0, none⟩ = some (.slice (some ⟨W1.heap.size, 0, none⟩) g.names.length g.names.length) := (World.cell?_of_block (a := ⟨W1.heap.size + 1, 0, none⟩) (hg3.block (W1.heap.size + 1) (by omega) (by intro e; injection e; omega))).trans hXq
  have Hfin : Hid (Below w.heap.size w W3) := hXw.trans (Grown.below hg3 (by omega) (by omega))
  have HB3 := hide hB3
  clear HC4 HC3 hg3 hB3 hXq hXB hX
  go_wp2_with fail
  go_ret
  exact ⟨⟨_, rfl, HB3.out⟩, Hfin.out⟩

/-- Terminal t stands in one of the first i rules. -/
def OccN (rs : List Rule) (i : Nat) (t : Nat) : Prop := ∃ a, ∃ h : a < rs.length, a < i ∧ (-1 - (t : Int)) ∈ rs[a].right
def Cnts (rs : List Rule) (n : Nat) (N : List Int) (i k : Nat) : Prop :=
  N.length = n ∧ ∀ t (h : t < N.length), 0 ≤ N[t] ∧ N[t] ≤ i * 64 + k ∧ (N[t] ≠ 0 ↔ OccN rs i t ∨ ∃ h : i < rs.length, (-1 - (t : Int)) ∈ rs[i].right.take k)
theorem cnts_nonterm {rs : List Rule} {n i k : Nat} {N : List Int} (h : Cnts rs n N i k) (hi : i < rs.length) (hk : k < rs[i].right.length) (h0 : 0 ≤ rs[i].right[k]) : Cnts rs n N i (k + 1) := by
  refine ⟨h.1, fun t ht => ?_⟩
  obtain ⟨h1, h2, h3⟩ := h.2 t ht
  refine ⟨h1, by omega, h3.trans ⟨fun h => h.imp id ?_, fun h => h.imp id ?_⟩⟩
  · rintro ⟨a, b⟩; exact ⟨a, (mem_take_succ _ _ _ hk).2 (.inl b)⟩
  · rintro ⟨a, b⟩
    rcases (mem_take_succ _ _ _ hk).1 b with c | c
    · exact ⟨a, c⟩
    · omega
theorem cnts_term {rs : List Rule} {n i k m : Nat} {N : List Int} (h : Cnts rs n N i k) (hi : i < rs.length) (hk : k < rs[i].right.length) (h0 : rs[i].right[k] = -1 - (m : Int)) (hm : m < N.length) : Cnts rs n (N.set m (N[m] + 1)) i (k + 1) := by
  refine ⟨by simpa using h.1, fun t ht => ?_⟩
  have ht' : t < N.length := by simpa using ht
  obtain ⟨h1, h2, h3⟩ := h.2 t ht'
  rw [List.getElem_set]
  by_cases e : m = t
  · subst e
    rw [if_pos rfl]
    exact ⟨by omega, by omega, fun _ => .inr ⟨hi, (mem_take_succ _ _ _ hk).2 (.inr h0.symm)⟩, fun _ => by omega⟩
  · rw [if_neg e]
    refine ⟨h1, by omega, h3.trans ⟨fun h => h.imp id ?_, fun h => h.imp id ?_⟩⟩
    · rintro ⟨a, b⟩; exact ⟨a, (mem_take_succ _ _ _ hk).2 (.inl b)⟩
    · rintro ⟨a, b⟩
      rcases (mem_take_succ _ _ _ hk).1 b with c | c
      · exact ⟨a, c⟩
      · omega
theorem cnts_next {rs : List Rule} {n i : Nat} {N : List Int} (hi : i < rs.length) (h : Cnts rs n N i rs[i].right.length) (h64 : rs[i].right.length ≤ 64) : Cnts rs n N (i + 1) 0 := by
  refine ⟨h.1, fun t ht => ?_⟩
  obtain ⟨h1, h2, h3⟩ := h.2 t ht
  simp only [List.take_length] at h3
  refine ⟨h1, by omega, h3.trans ⟨fun h => .inl ?_, fun h => ?_⟩⟩
  · rcases h with ⟨a, b, c, d⟩ | ⟨a, b⟩
    · exact ⟨a, b, by omega, d⟩
    · exact ⟨i, hi, by omega, b⟩
  · rcases h with ⟨a, b, c, d⟩ | ⟨a, b⟩
    · by_cases e : a = i
      · subst e; exact .inr ⟨hi, d⟩
      · exact .inl ⟨a, b, by omega, d⟩
    · simp at b

set_option maxHeartbeats 2000000 in
set_option maxRecDepth 8000 in
theorem terms_any (v : GV) (g : G) (w : World) (hg : GAt w w.heap.size v g) (hv : VG g) :
    Calls Try.prog 105 #[.agg #[.slice v.An g.names.length v.cn, .slice v.At g.terms.length v.ct, .slice v.Ar g.rules.length v.cr]] w fun e w' => e = .returned (.bool (bool (∀ t : Nat, t < g.terms.length → OccN g.rules g.rules.length t))) ∧ Below w.heap.size w w' := by
  have hsm : g.terms.length ≤ 1000000 ∧ g.rules.length ≤ 4096 := by have := hv.sy; have := hv.rl; omega
  have Hr := hide hg.r
  have HV := hide hv
  have hr := hg.hr
  have ht := hg.ht
  have Hb0 := hide (Bx.self (w := w) (cs := #[.slice v.An g.names.length v.cn, .slice v.At g.terms.length v.ct, .slice v.Ar g.rules.length v.cr]) (T := 25))
  have hmk := fun W => make_ints W g.terms.length hsm.1
  clear hg hv
  obtain ⟨An, cn, At, ct, Ar, cr⟩ := v
  dsimp only at Hb0 Hr hr ht
  go_enter Try.func105, Try.ntmps105
  go_wp2_with fail
  clear hmk
  go_loopw [15] (fun i V => ∃ W, W = V ∧ Bx w #[.slice An g.names.length cn, .slice At g.terms.length ct, .slice Ar g.rules.length cr] 25 W ∧ ∃ (k : Nat) (N : List Int), k ≤ g.rules.length ∧ i = .int .i64 k ∧ Cnts g.rules g.terms.length N k 0 ∧ Blk W (w.heap.size + 1) 3 (ints N).toArray) (fun i _ => g.rules.length - (intOf i).toNat)
  case atStart =>
    refine ⟨_, rfl, Hb0.out.alloc _, 0, List.replicate g.terms.length 0, by omega, rfl, ⟨by simp, fun t ht => ?_⟩, ?_⟩
    · simp [OccN]
    · have := Blk.new (w.alloc (.cells #[.slice An g.names.length cn, .slice At g.terms.length ct, .slice Ar g.rules.length cr] 25)) 3 (ints (List.replicate g.terms.length 0)).toArray
      show Blk _ (w.heap.size + 1) 3 (ints (List.replicate g.terms.length 0)).toArray
      simpa using this
  case round =>
    obtain ⟨W, rfl, hbx, i, N, hi, rfl, hcn, hB⟩ := hrel
    by_cases hlt : i < g.rules.length
    · obtain ⟨b, off, rfl, hb, C, c, k1, k2, k3, k4⟩ := Hr.out.at_ hlt
      have c1 := (hbx.below.cell hb).trans k1
      have c2 := (hbx.below.cell hb).trans k2
      have Hk4 := hide (k4.below hbx.below)
      have hlt1 := hbx.lt
      have HF := hide (HV.out.ru _ (List.getElem_mem hlt))
      have hfit := HF.out.2.2.1
      have Hb := hide (hbx.alloc (.cells #[.int .i64 g.rules[i].left, .slice C g.rules[i].right.length c] 35))
      have HB := hide (hB.alloc (.cells #[.int .i64 g.rules[i].left, .slice C g.rules[i].right.length c] 35))
      have Hbr := hide (Blk.new W 35 #[.int .i64 g.rules[i].left, .slice C g.rules[i].right.length c])
      have HK := hide ((k4.below hbx.below).keep (w' := W.alloc (.cells #[.int .i64 g.rules[i].left, .slice C g.rules[i].right.length c] 35)) fun p hp => World.cell?_alloc_lt W _ p (by omega))
      have Hcn := hide hcn
      clear hbx hB k1 k2 k3 k4 Hk4 hcn
      go_wp2_with fail
      clear c1 c2
      go_loopw [22] (fun j V => ∃ U, U = V ∧ Bx w #[.slice An g.names.length cn, .slice At g.terms.length ct, .slice (some ⟨b, off, none⟩) g.rules.length cr] 25 U ∧ SlAt U w.heap.size C (ints g.rules[i].right) ∧ ∃ (k : Nat) (N : List Int), k ≤ g.rules[i].right.length ∧ j = .int .i64 k ∧ Cnts g.rules g.terms.length N i k ∧ Blk U (w.heap.size + 1) 3 (ints N).toArray) (fun j _ => g.rules[i].right.length - (intOf j).toNat)
      case atStart => exact ⟨_, rfl, Hb.out, HK.out, 0, N, by omega, rfl, Hcn.out, HB.out⟩
      case round =>
        clear Hb HK Hcn HB Hbr
        obtain ⟨U, rfl, hbx, hK, k, N2, hk, rfl, hcn, hB⟩ := hrel
        by_cases hk2 : k < g.rules[i].right.length
        · obtain ⟨b2, off2, rfl, hb2, hcs2⟩ := hK.at_ (k := k) (by simpa using hk2)
          have e1 := hcs2 k _ (ints_at _ k hk2)
          clear hcs2
          have hs := HF.out.2.2.2 _ (List.getElem_mem hk2)
          have hlt2 := hbx.lt
          by_cases h0 : g.rules[i].right[k] < 0
          · obtain ⟨m, hm⟩ := Int.eq_ofNat_of_zero_le (by omega : 0 ≤ -1 - g.rules[i].right[k])
            have hm' : g.rules[i].right[k] = -1 - (m : Int) := by omega
            have hml : m < N2.length := by rw [hcn.1]; omega
            have hbd := hcn.2 m hml
            have e2 : U.cell? ⟨w.heap.size + 1, m, none⟩ = some (.int .i64 N2[m]) := by rw [hB.cell m]; simp [hml]
            have fz := hB.frozen m
            have wm : IntKind.i64.wrap (-1 - (-1 - (m : Int))) = m := by rw [show -1 - (-1 - (m : Int)) = m by omega]; exact IntWalk.i64_in _ (by omega)
            have wn : IntKind.i64.wrap (N2[m] + 1) = N2[m] + 1 := IntWalk.i64_in _ (by omega)
            have hd : decide (-1 - (m : Int) < 0) = true := decide_eq_true (by omega)
            have hmt : m < g.terms.length := by rw [← hcn.1]; exact hml
            have Hcn := hide (cnts_term hcn hlt hk2 hm' hml)
            rw [hm'] at e1
            have Hb := hide hbx; have HK := hide hK; have HB := hide hB
            clear hcn hm hm' h0 hs hbx hK hB hbd
            go_wp2_with (go_at_call 78; refine (isterm_fn _ _).mono ?_; rintro e w' ⟨rfl, rfl⟩)
            all_goals first | (exfalso; omega) | skip
            go_roundw
            case rel =>
              refine ⟨_, rfl, Hb.out.set _ _ (by omega) _, HK.out.keep fun p hp => World.cell?_setCell_other _ _ _ _ (by intro e; rw [← e] at hp; simp at hp; omega), k + 1, _, by omega, by go_num, Hcn.out, ?_⟩
              rw [ints_set]; exact HB.out.set_ m _
            case measure => simp [intOf]; omega
          · have hd : decide (g.rules[i].right[k] < 0) = false := decide_eq_false h0
            have Hcn := hide (cnts_nonterm hcn hlt hk2 (by omega))
            have Hb := hide hbx; have HK := hide hK; have HB := hide hB
            clear hcn hbx hK hB
            go_wp2_with (go_at_call 78; refine (isterm_fn _ _).mono ?_; rintro e w' ⟨rfl, rfl⟩)
            all_goals first | (exfalso; omega) | skip
            go_roundw
            case rel => exact ⟨_, rfl, Hb.out, HK.out, k + 1, N2, by omega, by go_num, Hcn.out, HB.out⟩
            case measure => simp [intOf]; omega
        · obtain rfl : k = g.rules[i].right.length := by omega
          have Hcn := hide (cnts_next hlt hcn hfit)
          clear hcn
          go_wp2_with fail
          go_roundw
          case rel => exact ⟨_, rfl, hbx, i + 1, N2, by omega, by go_num, Hcn.out, hB⟩
          case measure => simp [intOf]; omega
    · obtain rfl : i = g.rules.length := by omega
      have hNl := hcn.1
      have Hc : Hid (Calls Try.prog 135 #[.slice (some ⟨w.heap.size + 1, 0, none⟩) g.terms.length g.terms.length, .int .i64 0] W fun e w' => e = .returned (.bool (N.contains 0)) ∧ w' = W) := by
        have := Try.slices_Contains_int (w.heap.size + 1) 0 g.terms.length g.terms.length N 0 W (by omega) (by omega) (fun j hj => by
          rw [Nat.zero_add, hB.cell j]; simp [List.getD, hj])
        rw [← hNl, List.take_length] at this
        rw [← hNl]
        exact this
      have Hcn := hide hcn
      have HB := hide hB; have Hb := hide hbx
      clear hcn hB hbx
      have hres : Hid ((!N.contains 0) = bool (∀ t : Nat, t < g.terms.length → OccN g.rules g.rules.length t)) := by
        apply bool_eq
        rw [Bool.not_eq_true', ← Bool.not_eq_true, List.contains_iff_mem]
        constructor
        · intro h t ht
          obtain ⟨_, _, h3⟩ := Hcn.out.2 t (by omega)
          rcases h3.1 (fun e => h (by rw [← e]; exact List.getElem_mem _)) with h4 | ⟨h4, _⟩
          · exact h4
          · omega
        · intro h hm
          obtain ⟨t, ht, e⟩ := List.mem_iff_getElem.1 hm
          obtain ⟨_, _, h3⟩ := Hcn.out.2 t ht
          exact h3.2 (.inl (h t (by omega))) e
      generalize N.contains 0 = bb at Hc hres
      go_wp2_with (go_at_call 135; refine Hc.out.mono ?_; rintro e w' ⟨rfl, rfl⟩)
      go_ret
      exact ⟨ret_b hres.out, Hb.out.below⟩
end Go.Proofs.Ythpjjlmgdalpaaa
