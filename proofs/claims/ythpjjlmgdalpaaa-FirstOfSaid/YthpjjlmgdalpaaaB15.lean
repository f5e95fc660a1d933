/- well: IsTerm, sum, rounds and its two closures. -/
import Derived.Test.YthpjjlmgdalpaaaB14
import Derived.Handy
namespace Go.Proofs.Ythpjjlmgdalpaaa
open Go.RowKit

theorem isterm_fn (s : Int) (w : World) : Calls Try.prog 78 #[.int .i64 s] w fun e w' => e = .returned (.bool (decide (s < 0))) ∧ w = w' := by
  go_enter Try.func78, Try.ntmps78
  go_wp2
  all_goals
    go_ret
    refine ⟨ret_b ?_, rfl⟩
    simp [*]

theorem SlAt.grown {w W : World} {B : Nat} {A : Option Addr} {xs : List Value} (h : SlAt w B A xs) {ob : Nat} (hg : w.grownBy W (some ob)) (hB : B ≤ ob) (hBw : B ≤ w.heap.size) : SlAt W B A xs :=
  h.keep fun p hp => World.cell?_of_block (hg.block p.block (by omega) (by intro e; injection e; omega))
theorem RulesAt.grown {w W : World} {B : Nat} {A : Option Addr} {xs : List Rule} (h : RulesAt w B A xs) {ob : Nat} (hg : w.grownBy W (some ob)) (hB : B ≤ ob) (hBw : B ≤ w.heap.size) : RulesAt W B A xs :=
  h.keep fun p hp => World.cell?_of_block (hg.block p.block (by omega) (by intro e; injection e; omega))
theorem GAt.grown {w W : World} {B : Nat} {v : GV} {g : G} (h : GAt w B v g) {ob : Nat} (hg : w.grownBy W (some ob)) (hB : B ≤ ob) (hBw : B ≤ w.heap.size) : GAt W B v g :=
  h.keep fun p hp => World.cell?_of_block (hg.block p.block (by omega) (by intro e; injection e; omega))
theorem Below.grow {B : Nat} {a b : World} (h : Below B a b) (hB : a.heap.size ≤ B) (row : Option Nat) : a.grownBy b row := ⟨h.os, h.tape, h.output, h.size, fun k hk _ => h.block k (by omega)⟩
theorem Grown.below {a b : World} {ob B : Nat} (h : a.grownBy b (some ob)) (hB : B ≤ ob) (hBa : B ≤ a.heap.size) : Below B a b := ⟨h.os, h.tape, h.output, h.size, fun k hk => h.block k (by omega) (by intro e; injection e; omega)⟩
theorem Grown.set {a b : World} {ob : Nat} (h : a.grownBy b (some ob)) (k : Nat) (u : Value) : a.grownBy (b.setCell ⟨ob, k, none⟩ u) (some ob) :=
  ⟨h.os, h.tape, h.output, by simpa using h.size, fun j hj hne => (Below.heap_setCell b ⟨ob, k, none⟩ u j (fun e => hne (by rw [e]))).trans (h.block j hj hne)⟩

def iterN (f : List Bool → Rule → List Bool) (rs : List Rule) : Nat → List Bool → List Bool
  | 0, P => P
  | k + 1, P => rs.foldl f (iterN f rs k P)
theorem prodN_eq (g : G) : ∀ k, prodN g k = iterN prodStep g.rules k (List.replicate g.names.length false)
  | 0 => rfl
  | k + 1 => by rw [prodN, iterN, prodN_eq g k]
theorem reachN_eq (g : G) : ∀ k, reachN g k = iterN reachStep g.rules k ((List.replicate g.names.length false).set 0 true)
  | 0 => rfl
  | k + 1 => by rw [reachN, iterN, reachN_eq g k]

set_option maxRecDepth 8000 in
theorem rounds_any (fn : Nat) (eg : ∀ args w, (callFunc fn args).run Try.prog w = .ok (.enter fn args) w) (f : List Bool → Rule → List Bool) (I : List Bool → World → Prop) (q : Addr) (ob B : Nat) (v : GV) (g : G) (w : World)
    (hg : GAt w B v g) (hBo : B ≤ ob) (hob : ob < w.heap.size) (hsm : g.names.length ≤ 1000000)
    (hIa : ∀ P W o, I P W → I P (W.alloc o))
    (hstep : ∀ (r : Rule) (C : Option Addr) (c : Nat) (P : List Bool) (W : World), r ∈ g.rules → w.grownBy W (some ob) → SlAt W B C (ints r.right) → r.right.length ≤ c → I P W →
      Calls Try.prog fn #[.agg #[.int .i64 r.left, .slice C r.right.length c], .pointer (some q)] W fun e W' => e = .returned (.tuple #[]) ∧ I (f P r) W' ∧ W.grownBy W' (some ob))
    (P0 : List Bool) (h0 : I P0 w) :
    Calls Try.prog 133 #[.agg #[.slice v.An g.names.length v.cn, .slice v.At g.terms.length v.ct, .slice v.Ar g.rules.length v.cr], .func (.func fn) #[] #[.pointer (some q)]] w fun e W' => e = .returned (.tuple #[]) ∧ I (iterN f g.rules (g.names.length + 1) P0) W' ∧ w.grownBy W' (some ob) := by
  have hr := hg.hr
  have Hr := hide hg.r
  have Hs := hide hstep
  have HI := hide hIa
  have H0 := hide h0
  clear hg hstep hIa h0
  obtain ⟨An, cn, At, ct, Ar, cr⟩ := v
  dsimp only at hr Hr
  have wn : IntKind.i64.wrap ((g.names.length : Int) + 1) = g.names.length + 1 := IntWalk.i64_in _ (by omega)
  go_enter Try.func133, Try.ntmps133
  go_wp2_with fail
  go_loopw [10] (fun i V => ∃ W, W = V ∧ w.grownBy W (some ob) ∧ Blk W w.heap.size 25 #[.slice An g.names.length cn, .slice At g.terms.length ct, .slice Ar g.rules.length cr] ∧ ∃ k : Nat, k ≤ g.names.length + 1 ∧ i = .int .i64 k ∧ I (iterN f g.rules k P0) W) (fun i _ => g.names.length + 1 - (intOf i).toNat)
  case atStart => exact ⟨_, rfl, World.grownBy_alloc _ _ _, Blk.new _ _ _, 0, by omega, rfl, HI.out _ _ _ H0.out⟩
  case round =>
    clear H0
    obtain ⟨W, rfl, hgr, hblk, n, hn, rfl, hI⟩ := hrel
    have cG := hblk.cell
    by_cases hlt : n < g.names.length + 1
    · have hlt' : (n : Int) < (g.names.length : Int) + 1 := by omega
      go_wp2_with fail
      have Hgr := hide hgr; have Hblk := hide hblk; have HI1 := hide hI
      clear hgr hblk cG hI
      go_loopw [15] (fun i V => ∃ W, W = V ∧ w.grownBy W (some ob) ∧ Blk W w.heap.size 25 #[.slice An g.names.length cn, .slice At g.terms.length ct, .slice Ar g.rules.length cr] ∧ ∃ k : Nat, k ≤ g.rules.length ∧ i = .int .i64 k ∧ I ((g.rules.take k).foldl f (iterN f g.rules n P0)) W) (fun i _ => g.rules.length - (intOf i).toNat)
      case atStart => exact ⟨_, rfl, Hgr.out, Hblk.out, 0, by omega, rfl, HI1.out⟩
      case round =>
        clear Hgr Hblk HI1
        obtain ⟨W, rfl, hgr, hblk, i, hi, rfl, hI⟩ := hrel
        have cG := hblk.cell
        by_cases hlt2 : i < g.rules.length
        · obtain ⟨b, off, rfl, hb, C, c, k1, k2, k3, k4⟩ := Hr.out.at_ hlt2
          have hbb : W.heap[b]? = w.heap[b]? := hgr.block b (by omega) (by intro e; injection e; omega)
          have c1 : W.cell? ⟨b, off + i * 2, none⟩ = some (.int .i64 g.rules[i].left) := (World.cell?_of_block (a := ⟨b, off + i * 2, none⟩) hbb).trans k1
          have c2 : W.cell? ⟨b, off + i * 2 + 1, none⟩ = some (.slice C g.rules[i].right.length c) := (World.cell?_of_block (a := ⟨b, off + i * 2 + 1, none⟩) hbb).trans k2
          have hga : w.grownBy (W.alloc (.cells #[.int .i64 g.rules[i].left, .slice C g.rules[i].right.length c] 35)) (some ob) := hgr.trans (World.grownBy_alloc _ _ _)
          have Hc := hide (Hs.out g.rules[i] C c _ (W.alloc (.cells #[.int .i64 g.rules[i].left, .slice C g.rules[i].right.length c] 35)) (List.getElem_mem hlt2) hga (k4.grown hga hBo (by omega)) k3 (HI.out _ _ _ hI))
          have Hgr := hide hga
          have Hblk := hide (hblk.alloc (.cells #[.int .i64 g.rules[i].left, .slice C g.rules[i].right.length c] 35))
          clear hgr hblk hI k1 k2 k3 k4 hbb hga
          go_wp2_with ((with_reducible refine calls_id ?_); refine Hc.out.mono ?_; rintro e w' ⟨rfl, hI1, hg1⟩)
          go_roundw
          case rel =>
            refine ⟨_, rfl, Hgr.out.trans hg1, Hblk.out.grown hg1 (by intro e; injection e; omega), i + 1, by omega, by go_num, ?_⟩
            rw [foldl_take _ _ _ _ hlt2]
            exact hI1
          case measure => simp [intOf]; omega
        · obtain rfl : i = g.rules.length := by omega
          rw [List.take_length] at hI
          go_wp2_with fail
          go_roundw
          case rel => exact ⟨_, rfl, hgr, hblk, n + 1, by omega, by go_num, hI⟩
          case measure => simp [intOf]; omega
    · obtain rfl : n = g.names.length + 1 := by omega
      go_wp2_with fail
      go_returns
      exact ⟨rfl, hI, hgr⟩

/-- Whether a symbol's length is known. -/
def sgn (S : List Int) : List Bool := S.map (fun x => decide (0 ≤ x))
def Lens (S : List Int) : Prop := ∀ x ∈ S, -1 ≤ x ∧ x ≤ 1000000
theorem sgn_getD (S : List Int) (k : Nat) (h : k < S.length) : (sgn S).getD k false = decide (0 ≤ S[k]) := by
  simp [sgn, List.getD, h]

set_option maxRecDepth 8000 in
theorem sum_any (A : Option Addr) (c : Nat) (l : List Int) (w : World) (hA : SlAt w w.heap.size A (ints l)) (hc : l.length ≤ c) (hl : l.length ≤ 64) (b : Nat) (S : List Int) (hS : Blk w b 3 (ints S).toArray) (hSb : Lens S) (hs : ∀ s ∈ l, s < S.length) (hSl : S.length ≤ 1000000) :
    Calls Try.prog 145 #[.slice A l.length c, .slice (some ⟨b, 0, none⟩) S.length S.length] w fun e w' => (∃ n : Int, e = .returned (.int .i64 n) ∧ -1 ≤ n ∧ n ≤ 1000000 ∧ (0 ≤ n ↔ l.all (okB (sgn S)) = true)) ∧ w = w' := by
  have HA := hide hA
  have HS := hide hS
  have Hsb := hide hSb
  have Hs := hide hs
  clear hA hS hSb hs
  go_enter Try.func145, Try.ntmps145
  go_wp2_with fail
  go_loop [5, 10] (fun n i => ∃ (m : Int) (k : Nat), k ≤ l.length ∧ i = .int .i64 k ∧ n = .int .i64 m ∧ 0 ≤ m ∧ m ≤ k * 1000000 ∧ Hid ((l.take k).all (okB (sgn S)) = true)) (fun _ i => l.length - (intOf i).toNat)
  case atStart => exact ⟨0, 0, by omega, rfl, rfl, by omega, by omega, rfl⟩
  case round =>
    obtain ⟨n, k, hk, rfl, rfl, hn0, hn1, hall⟩ := hrel
    by_cases hlt : k < l.length
    · obtain ⟨b2, off, rfl, hb, hcs⟩ := HA.out.at_ (k := k) (by simpa using hlt)
      have c1 := hcs k _ (ints_at l k hlt)
      clear hcs
      have hsl := Hs.out _ (List.getElem_mem hlt)
      have Hts := hide (all_take_succ l (okB (sgn S)) k hlt)
      have w1 : IntKind.i64.wrap (n + 1) = n + 1 := IntWalk.i64_in _ (by omega)
      by_cases h0 : l[k] < 0
      · have ho : Hid (okB (sgn S) l[k] = true) := by unfold Hid okB; rw [decide_eq_true h0]; rfl
        have h0' : decide (l[k] < 0) = true := decide_eq_true h0
        go_wp2_with (go_at_call 78; refine (isterm_fn _ _).mono ?_; rintro e w' ⟨rfl, rfl⟩)
        all_goals first | (exfalso; omega) | skip
        go_round
        case rel => exact ⟨n + 1, k + 1, by omega, by go_num, rfl, by omega, by omega, by rw [Hid, Hts.out, hall.out, ho.out]; rfl⟩
        case measure => simp [intOf]; omega
      · obtain ⟨m, hm⟩ := Int.eq_ofNat_of_zero_le (by omega : 0 ≤ l[k])
        rw [hm] at c1 h0 hsl
        have hml : m < S.length := by omega
        have h0' : decide ((m : Int) < 0) = false := decide_eq_false h0
        have e2 : w.cell? ⟨b, m, none⟩ = some (.int .i64 S[m]) := by rw [HS.out.cell m]; simp [hml]
        have ho : Hid (okB (sgn S) l[k] = decide (0 ≤ S[m])) := by unfold Hid okB; rw [hm, decide_eq_false (by omega), Bool.false_or, Int.toNat_natCast, sgn_getD _ _ hml]
        have hbd := Hsb.out _ (List.getElem_mem hml)
        clear hm
        by_cases hz : S[m] < 0
        · have Hno : Hid (l.all (okB (sgn S)) = false) := all_no l _ k hlt (by rw [ho.out]; exact decide_eq_false (by omega))
          go_wp2_with (go_at_call 78; refine (isterm_fn _ _).mono ?_; rintro e w' ⟨rfl, rfl⟩)
          all_goals first | (exfalso; omega) | skip
          go_ret
          refine ⟨⟨-1, rfl, by omega, by omega, ?_⟩, rfl⟩
          rw [← Bool.not_eq_false, Hno.out]; simp
        · have ho' : Hid (okB (sgn S) l[k] = true) := by unfold Hid; rw [ho.out]; exact decide_eq_true (by omega)
          have w2 : IntKind.i64.wrap (n + S[m]) = n + S[m] := IntWalk.i64_in _ (by omega)
          go_wp2_with (go_at_call 78; refine (isterm_fn _ _).mono ?_; rintro e w' ⟨rfl, rfl⟩)
          all_goals first | (exfalso; omega) | skip
          go_round
          case rel => exact ⟨n + S[m], k + 1, by omega, by go_num, rfl, by omega, by omega, by rw [Hid, Hts.out, hall.out, ho'.out]; rfl⟩
          case measure => simp [intOf]; omega
    · have hfin := hall.out
      rw [List.take_of_length_le (by omega)] at hfin
      have Hfin := hide hfin
      clear hfin
      go_wp2_with fail
      all_goals
        go_ret
        refine ⟨⟨_, rfl, ?_, ?_, ?_⟩, rfl⟩
        · omega
        · omega
        · have := Hfin.out
          exact ⟨fun _ => by simpa using this, fun _ => by omega⟩
end Go.Proofs.Ythpjjlmgdalpaaa
