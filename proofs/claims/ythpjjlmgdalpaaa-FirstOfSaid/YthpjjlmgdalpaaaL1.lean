/- Chapter 20's example. -/
import Derived.Test.YthpjjlmgdalpaaaP5
namespace Go.Proofs.Ythpjjlmgdalpaaa
open Go.RowKit

/-- A grammar of two rules that lies as a literal has been laid. -/
theorem lit2 {W : World} {B bn bt br : Nat} {N T : List ByteArray} {l0 l1 : Int} {R0 R1 : List Int} {C0 C1 : Option Addr} {c0 c1 : Nat}
    (hn : Blk W bn 9 (strs N).toArray) (ht : Blk W bt 9 (strs T).toArray) (hr : Blk W br 35 #[.int .i64 l0, .slice C0 R0.length c0, .int .i64 l1, .slice C1 R1.length c1])
    (h0 : SlAt W B C0 (ints R0)) (h1 : SlAt W B C1 (ints R1)) (hB : bn < B ∧ bt < B ∧ br < B) (hc0 : R0.length ≤ c0) (hc1 : R1.length ≤ c1) (hN : N.length ≤ 1000 ∧ ∀ s ∈ N, s.size ≤ 1000) (hT : T.length ≤ 1000 ∧ ∀ s ∈ T, s.size ≤ 1000) (hR : R0.length ≤ 1000 ∧ R1.length ≤ 1000) :
    GAt W B ⟨some ⟨bn, 0, none⟩, N.length, some ⟨bt, 0, none⟩, T.length, some ⟨br, 0, none⟩, 2⟩ ⟨N, T, [⟨l0, R0⟩, ⟨l1, R1⟩]⟩ := by
  refine ⟨.inr ⟨bn, 0, rfl, hB.1, fun j u hu => ?_⟩, .inr ⟨bt, 0, rfl, hB.2.1, fun j u hu => ?_⟩, .inr ⟨br, 0, rfl, hB.2.2, fun k hk => ?_⟩, ⟨Nat.le_refl _, by show N.length ≤ _; omega⟩, ⟨Nat.le_refl _, by show T.length ≤ _; omega⟩, ⟨Nat.le_refl _, by show 2 ≤ _; omega⟩, fun s hs => by have := hN.2 s hs; omega, fun s hs => by have := hT.2 s hs; omega, fun r hr' => ?_⟩
  · rw [hn.cell]; simpa using hu
  · rw [ht.cell]; simpa using hu
  · have hk2 : k = 0 ∨ k = 1 := by have : k < 2 := hk; omega
    rcases hk2 with rfl | rfl
    · exact ⟨C0, c0, by rw [hr.cell]; rfl, by rw [hr.cell]; rfl, hc0, h0⟩
    · exact ⟨C1, c1, by rw [hr.cell]; rfl, by rw [hr.cell]; rfl, hc1, h1⟩
  · rcases List.mem_cons.1 hr' with rfl | hr'
    · show R0.length ≤ _; omega
    · rw [List.mem_singleton.1 hr']; show R1.length ≤ _; omega
instance : DecidableEq Rule := fun a b =>
  if h : a.left = b.left ∧ a.right = b.right then isTrue (by
    obtain ⟨h1, h2⟩ := h
    cases a; cases b
    dsimp only at h1 h2
    subst h1 h2
    rfl)
  else isFalse fun e => h (by subst e; exact ⟨rfl, rfl⟩)
def vgB (g : G) : Bool := decide (1 ≤ g.names.length) && (decide (g.names.length + g.terms.length ≤ 256) && (decide (g.rules.length ≤ 4096) && (g.names.all (fun s => nameB s.data.toList) && (decide g.names.Nodup && (g.terms.all (fun s => termB s.data.toList) && (decide g.terms.Nodup &&
  (g.rules.all (fun r => decide (0 ≤ r.left) && (decide (r.left < g.names.length) && (decide (r.right.length ≤ 64) && r.right.all fun s => decide (s < g.names.length) && decide (-(g.terms.length : Int) ≤ s)))) && ((List.range g.names.length).all (fun i => g.rules.any fun r => decide (r.left = i)) && decide g.rules.Nodup))))))))
theorem vg_of {g : G} (h : vgB g = true) : VG g := by
  unfold vgB at h
  simp only [Bool.and_eq_true, decide_eq_true_eq, List.all_eq_true, List.any_eq_true, List.mem_range] at h
  obtain ⟨h1, h2, h3, h4, h5, h6, h7, h8, h9, h10⟩ := h
  exact ⟨h1, h2, h3, h4, h5, h6, h7, fun r hr => ⟨(h8 r hr).1, (h8 r hr).2.1, (h8 r hr).2.2.1, fun s hs => (h8 r hr).2.2.2 s hs⟩, h9, h10⟩
def wmB (g : G) : Bool := vgB g && ((List.range g.names.length).all (fun i => (prodN g (g.names.length + 1)).getD i false) && ((List.range g.names.length).all (fun i => (reachN g (g.names.length + 1)).getD i false) &&
  (List.range g.terms.length).all fun t => g.rules.any fun r => (reachN g (g.names.length + 1)).getD r.left.toNat false && decide ((-1 - (t : Int)) ∈ r.right)))
theorem wm_of {g : G} (h : wmB g = true) : WM g := by
  unfold wmB at h
  simp only [Bool.and_eq_true, decide_eq_true_eq, List.all_eq_true, List.any_eq_true, List.mem_range] at h
  obtain ⟨h1, h2, h3, h4⟩ := h
  exact ⟨vg_of h1, h2, h3, h4⟩

def g20 : G := ⟨[⟨#[83]⟩], [⟨#[97]⟩], [⟨0, [-1, 0]⟩, ⟨0, []⟩]⟩
theorem wm20 : WM g20 := wm_of (by decide +kernel)
theorem sets20 : setsC 2 g20.rules 10 (List.replicate 1 []) = some (some [[[], [0], [0, 0]]]) := by decide +kernel

set_option maxHeartbeats 1000000 in
set_option maxRecDepth 8000 in
theorem awake20_any (w : World) : Calls Try.prog 24 #[] w fun e w' => e = .returned (.bool true) ∧ Below w.heap.size w w' := by
  obtain ⟨W, hW⟩ : ∃ W, W = ((((w.alloc (.cells #[.string ⟨#[83]⟩] 9)).alloc (.cells #[.string ⟨#[97]⟩] 9)).alloc (.cells #[.int .i64 (-1), .int .i64 0] 3)).alloc (.cells #[.int .i64 0, .slice (some ⟨w.heap.size + 1 + 1, 0, none⟩) 2 2, .int .i64 0, .slice none 0 0] 35)).alloc (.cells #[.slice (some ⟨w.heap.size, 0, none⟩) 1 1, .slice (some ⟨w.heap.size + 1, 0, none⟩) 1 1, .slice (some ⟨w.heap.size + 1 + 1 + 1, 0, none⟩) 2 2] 25) := ⟨_, rfl⟩
  have hb : Below w.heap.size w W := by
    rw [hW]
    exact (((((Below.refl _ _).alloc (Nat.le_refl _) _).alloc (by simp) _).alloc (by simp; omega) _).alloc (by simp; omega) _).alloc (by simp; omega) _
  have hC : Hid (Calls Try.prog 25 #[.agg #[.slice (some ⟨w.heap.size, 0, none⟩) 1 1, .slice (some ⟨w.heap.size + 1, 0, none⟩) 1 1, .slice (some ⟨w.heap.size + 1 + 1 + 1, 0, none⟩) 2 2], .int .i64 2] W fun e w' => (∃ b, e = .returned (.tuple #[.slice (some ⟨b, 0, none⟩) 1 1, .int .i64 0]) ∧ SS w' b [[[], [0], [0, 0]]]) ∧ Below W.heap.size W w') := by
    have k0 : Blk W w.heap.size 9 (strs [⟨#[83]⟩]).toArray := by rw [hW]; exact ((((Blk.new w 9 _).alloc _).alloc _).alloc _).alloc _
    have k1 : Blk W (w.heap.size + 1) 9 (strs [⟨#[97]⟩]).toArray := by
      rw [hW]
      have := ((((Blk.new (w.alloc (.cells #[.string ⟨#[83]⟩] 9)) 9 (strs [⟨#[97]⟩]).toArray).alloc (.cells #[.int .i64 (-1), .int .i64 0] 3)).alloc (.cells #[.int .i64 0, .slice (some ⟨w.heap.size + 1 + 1, 0, none⟩) 2 2, .int .i64 0, .slice none 0 0] 35)).alloc (.cells #[.slice (some ⟨w.heap.size, 0, none⟩) 1 1, .slice (some ⟨w.heap.size + 1, 0, none⟩) 1 1, .slice (some ⟨w.heap.size + 1 + 1 + 1, 0, none⟩) 2 2] 25))
      simpa using this
    have k2 : Blk W (w.heap.size + 1 + 1) 3 (ints [-1, 0]).toArray := by
      rw [hW]
      have := (((Blk.new ((w.alloc (.cells #[.string ⟨#[83]⟩] 9)).alloc (.cells #[.string ⟨#[97]⟩] 9)) 3 (ints [-1, 0]).toArray).alloc (.cells #[.int .i64 0, .slice (some ⟨w.heap.size + 1 + 1, 0, none⟩) 2 2, .int .i64 0, .slice none 0 0] 35)).alloc (.cells #[.slice (some ⟨w.heap.size, 0, none⟩) 1 1, .slice (some ⟨w.heap.size + 1, 0, none⟩) 1 1, .slice (some ⟨w.heap.size + 1 + 1 + 1, 0, none⟩) 2 2] 25))
      simpa using this
    have k3 : Blk W (w.heap.size + 1 + 1 + 1) 35 #[.int .i64 0, .slice (some ⟨w.heap.size + 1 + 1, 0, none⟩) 2 2, .int .i64 0, .slice none 0 0] := by
      rw [hW]
      have := ((Blk.new (((w.alloc (.cells #[.string ⟨#[83]⟩] 9)).alloc (.cells #[.string ⟨#[97]⟩] 9)).alloc (.cells #[.int .i64 (-1), .int .i64 0] 3)) 35 #[.int .i64 0, .slice (some ⟨w.heap.size + 1 + 1, 0, none⟩) 2 2, .int .i64 0, .slice none 0 0]).alloc (.cells #[.slice (some ⟨w.heap.size, 0, none⟩) 1 1, .slice (some ⟨w.heap.size + 1, 0, none⟩) 1 1, .slice (some ⟨w.heap.size + 1 + 1 + 1, 0, none⟩) 2 2] 25))
      simpa using this
    have hg : GAt W W.heap.size ⟨some ⟨w.heap.size, 0, none⟩, 1, some ⟨w.heap.size + 1, 0, none⟩, 1, some ⟨w.heap.size + 1 + 1 + 1, 0, none⟩, 2⟩ g20 :=
      lit2 (N := [⟨#[83]⟩]) (T := [⟨#[97]⟩]) (R0 := [-1, 0]) (R1 := []) k0 k1 k3 (.inr ⟨w.heap.size + 1 + 1, 0, rfl, k2.lt, fun j u hu => by rw [k2.cell]; simpa using hu⟩) .nil ⟨k0.lt, k1.lt, k3.lt⟩ (by decide) (by decide) (by decide) (by decide) (by decide)
    refine (fsets_any _ g20 2 W hg wm20 (by decide) (by decide)).mono ?_
    rintro e w' ⟨⟨r, hr, hm⟩, hb'⟩
    have := sets_C _ _ _ _ _ _ sets20 hr
    subst this
    obtain ⟨b, rfl, hS, _, _⟩ := hm
    exact ⟨⟨b, rfl, hS⟩, hb'⟩
  have Hb := hide hb
  clear hb
  go_enter Try.func24, Try.ntmps24
  go_wp2_with fail
  rw [← hW]
  have HW := hide hW
  clear hW
  refine hC.out.mono ?_
  rintro e w1 ⟨⟨b, rfl, hS⟩, hb1⟩
  obtain ⟨v, hv1, hv2⟩ := hS.at_ 0 (by decide)
  obtain ⟨A, c, rfl, q1, q2, q3, -⟩ := id hv2.form
  obtain ⟨bb, off, rfl, hbb, hcs⟩ := q3.at_ (k := 0) (by decide)
  have s0 : w1.cell? ⟨bb, off, none⟩ = some (.string ⟨#[]⟩) := hcs 0 _ rfl
  have s1 : w1.cell? ⟨bb, off + 1, none⟩ = some (.string ⟨#[0]⟩) := hcs 1 _ rfl
  have s2 : w1.cell? ⟨bb, off + 2, none⟩ = some (.string ⟨#[0, 0]⟩) := hcs 2 _ rfl
  have hv3 : w1.cell? ⟨b, 0, none⟩ = some (.slice (some ⟨bb, off, none⟩) 3 c) := hv1
  have q1' : 3 ≤ c := q1
  have Hb1 := hide hb1
  clear hb1 hS hv1 hv2 q3 hcs hC
  go_wp2_with fail
  go_ret
  exact ⟨rfl, Hb.out.trans (Hb1.out.mono Hb.out.size)⟩
end Go.Proofs.Ythpjjlmgdalpaaa
