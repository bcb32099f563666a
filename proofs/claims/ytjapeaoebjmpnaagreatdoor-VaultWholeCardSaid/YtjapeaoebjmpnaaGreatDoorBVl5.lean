/- The walk of VaultChecks. -/
import Derived.Test.YtjapeaoebjmpnaaGreatDoorB20
namespace Go.Proofs.YtjapeaoebjmpnaaGreatDoor
open Go.RowKit Go.Maps
set_option linter.unusedVariables false
set_option linter.unusedSimpArgs false
attribute [local go_sem] bmax2 bmin2 bmax_two bmin_two

set_option maxRecDepth 100000 in
set_option maxHeartbeats 4000000 in
theorem VaultChecks_calls {F : Nat → Prop} {w : World} {va da : Option Addr} {vn vc dn dc : Nat} {i t : Int} {l : List Int} {d : By} (hi : In64 i) (ht : In64 t) (hv : IsF F w va vn vc l) (hd : ByF F w da dn dc d) (z : Int) (hz : In64 z) (hT : TabP w) :
    Calls Tryz.prog 3 #[.agg #[.int .i64 i, .int .i64 t, .slice va vn vc, .slice da dn dc], .int .i64 z] w (fun e w' => e = .returned (.bool true) ∧ Ext w w') := by
  have HA := hid (fun W (hW : Ext w W) => awake_any (hT.ext hW))
  have HV := hid hv
  have hx1 := ext_alloc w (.cells #[.int .i64 i, .int .i64 t, .slice va vn vc, .slice da dn dc] 25)
  have hdn : dn ≤ 140737488351232 := hd.2.2.1.2
  have hvn : vn ≤ 1000000000000000 := by have := hv.2.2.1.2; omega
  clear hv hd
  go_enter Tryz.func3, Tryz.ntmps3
  by_cases h1 : 1000 < (vn : Int)
  · go_wp2_with fail
    refine Calls.mono (HA.out _ hx1) ?_
    rintro e w2 ⟨rfl, hx2⟩
    go_wp2
    go_ret
    exact ⟨rfl, hx1.trans' hx2⟩
  · by_cases h2 : 65536 < (dn : Int)
    · go_wp2_with fail
      refine Calls.mono (HA.out _ hx1) ?_
      rintro e w2 ⟨rfl, hx2⟩
      go_wp2
      go_ret
      exact ⟨rfl, hx1.trans' hx2⟩
    · obtain ⟨q, hq, hql⟩ : ∃ q : Nat, (IntKind.u64.wrap z).tmod 262146 = (q : Int) ∧ q < 262146 := by
        have h0 : 0 ≤ IntKind.u64.wrap z := by rw [IntKind.wrap_u64]; omega
        have h3 := Int.tmod_lt_of_pos (IntKind.u64.wrap z) (show (0 : Int) < 262146 by decide)
        have h4 := Int.tmod_nonneg 262146 h0
        exact ⟨((IntKind.u64.wrap z).tmod 262146).toNat, by omega, by omega⟩
      obtain ⟨N, hN⟩ : ∃ N : Nat, (dn : Int) + (q : Int) = (N : Int) := ⟨dn + q, by omega⟩
      have hNb : N ≤ 400000 := by omega
      have hrun := fun W => run_bytes W N (by omega)
      go_wp2
      have e1 := heap_alloc_new w (.cells #[.int .i64 i, .int .i64 t, .slice va vn vc, .slice (some ⟨w.heap.size + 1, 0, none⟩) N N] 25)
      have z1 : (w.alloc (.cells #[.int .i64 i, .int .i64 t, .slice va vn vc, .slice (some ⟨w.heap.size + 1, 0, none⟩) N N] 25)).heap.size = w.heap.size + 1 := World.size_alloc ..
      have x1 := ext_alloc w (.cells #[.int .i64 i, .int .i64 t, .slice va vn vc, .slice (some ⟨w.heap.size + 1, 0, none⟩) N N] 25)
      generalize w.alloc (.cells #[.int .i64 i, .int .i64 t, .slice va vn vc, .slice (some ⟨w.heap.size + 1, 0, none⟩) N N] 25) = W1 at *
      have x2 := ext_alloc W1 (.cells (madeCells #[.int .u8 0] N) 5)
      have b2 := by_made W1 N (by omega)
      generalize W1.alloc (.cells (madeCells #[.int .u8 0] N) 5) = W2 at *
      rw [z1] at b2
      have hsn : SnV (fun _ => True) W2 (.agg #[.int .i64 i, .int .i64 t, .slice va vn vc, .slice (some ⟨w.heap.size + 1, 0, none⟩) N N]) ⟨i, t, l, List.replicate N 0⟩ :=
        ⟨va, vn, vc, _, N, N, rfl, hi, ht, (HV.out.below (x1.trans' x2)).more fun _ _ => trivial, b2.more fun _ _ => trivial⟩
      have e2 := (x2.block w.heap.size (by omega)).trans e1
      have hl2 := (Array.getElem?_eq_some_iff.1 e2).1
      have HB := hid (fun W (hW : Ext W2 W) => (cells4 ((hW.block w.heap.size hl2).trans e2)).1)
      have HCK := hid (fun W (hW : Ext W2 W) => Check_any (hsn.below hW))
      have HRC := hid (fun W (hW : Ext W2 W) => RCheck_any (hsn.below hW))
      obtain ⟨c, hc⟩ : ∃ c, c = checkS ⟨i, t, l, List.replicate N 0⟩ := ⟨_, rfl⟩
      rw [← hc] at HCK HRC
      have HX2 := hid (x1.trans' x2)
      clear e1 z1 x1 x2 b2 hsn e2 hl2 hc hrun hN hq
      go_region_held3 (fun W => W.cell? ⟨w.heap.size, 0, none⟩ = some (.int .i64 i) ∧ W.cell? ⟨w.heap.size, 1, none⟩ = some (.int .i64 t) ∧ W.cell? ⟨w.heap.size, 2, none⟩ = some (.slice va vn vc) ∧ W.cell? ⟨w.heap.size, 3, none⟩ = some (.slice (some ⟨w.heap.size + 1, 0, none⟩) N N))
        (first | exact HB.out _ hy | exact HB.out _ (ext_drew _))
        (first
         | (go_at_call 12; refine Calls.mono (HCK.out _ (by first | exact hy | exact ext_drew _)) ?_; rintro e w4 ⟨rfl, hxx⟩; have hy : Ext W2 w4 := Ext.trans' (by first | exact hy | exact ext_drew _) hxx)
         | (go_at_call 13; refine Calls.mono (HRC.out _ (by first | exact hy | exact ext_drew _)) ?_; rintro e w4 ⟨rfl, hxx⟩; have hy : Ext W2 w4 := Ext.trans' (by first | exact hy | exact ext_drew _) hxx)
         | (go_at_call 11; refine Calls.mono (HA.out _ (HX2.out.trans' hy)) ?_; rintro e w4 ⟨rfl, hxx⟩; have hy : Ext W2 w4 := Ext.trans' hy hxx))
      all_goals
        go_wp2
        go_ret
        exact ⟨rfl, HX2.out.trans' hy⟩
end Go.Proofs.YtjapeaoebjmpnaaGreatDoor
