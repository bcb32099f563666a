/- The walk of VaultNobody. Printed by gen_vn1.py. -/
import Derived.Test.YtjapeaoebjmpnaaGreatDoorBVl9
namespace Go.Proofs.YtjapeaoebjmpnaaGreatDoor
open Go.RowKit Go.Maps
set_option linter.unusedVariables false
set_option linter.unusedSimpArgs false
attribute [local go_sem] bmax2 bmin2 bmax_two bmin_two

def NoDisk (w : World) (p : Option Addr) : Prop := p = none ∨ ∃ g, p = some ⟨g, 0, none⟩ ∧ w.cell? ⟨g, 5, none⟩ = some (.map none)
def NoVault (w : World) (p : Option Addr) : Prop := p = none ∨ ∃ g, p = some ⟨g, 0, none⟩ ∧ w.cell? ⟨g, 5, none⟩ = some (.pointer none)
theorem NoDisk.ext {w w' : World} {p : Option Addr} (h : NoDisk w p) (hx : Ext w w') : NoDisk w' p := by
  rcases h with h | ⟨g, h1, h2⟩
  · exact .inl h
  · exact .inr ⟨g, h1, (hx.cell (p := ⟨g, 5, none⟩) (World.block_lt_of_cell? w _ h2)).trans h2⟩
theorem NoVault.ext {w w' : World} {p : Option Addr} (h : NoVault w p) (hx : Ext w w') : NoVault w' p := by
  rcases h with h | ⟨g, h1, h2⟩
  · exact .inl h
  · exact .inr ⟨g, h1, (hx.cell (p := ⟨g, 5, none⟩) (World.block_lt_of_cell? w _ h2)).trans h2⟩
set_option maxHeartbeats 1000000 in
theorem Clone_none {w : World} {p : Option Addr} (hp : NoDisk w p) : Calls Tryz.prog 57 #[.pointer p] w (fun e w' => e = .returned (.pointer none) ∧ Ext w w') := by
  have hm := fun (r : Option Nat) (W : World) => run_eql_map_nil (P := Tryz.prog) W 79 9 23 r Tryz.underlying79
  rcases hp with rfl | ⟨g, rfl, h5⟩
  all_goals
    go_enter Tryz.func57, Tryz.ntmps57
    go_wp2
    go_ret
    exact ⟨rfl, Below.refl _ _⟩
set_option maxHeartbeats 1000000 in
theorem Open_none {w : World} {p : Option Addr} (hp : NoDisk w p) : Calls Tryz.prog 24 #[.pointer p] w (fun e w' => e = .returned (.tuple #[.pointer none, .int .i64 6]) ∧ Ext w w') := by
  have HC := hid (Clone_none hp)
  clear hp
  go_enter Tryz.func24, Tryz.ntmps24
  go_wp2_with fail
  refine Calls.mono HC.out ?_
  rintro e w1 ⟨rfl, hx1⟩
  go_wp2
  go_ret2
  exact ⟨rfl, hx1⟩
theorem open_off (room : Int) : openS ((DS.new room).crash 0 0).2 = (22, ((DS.new room).crash 0 0).2) := rfl

set_option maxRecDepth 100000 in
set_option maxHeartbeats 8000000 in
theorem VaultNobody_calls {F : Nat → Prop} {w : World} {v : Value} {y : Kt} (hv : KtV F w v y) (at_ : Int) (hat : In64 at_) (hT : TabP w) :
    Calls Tryz.prog 8 #[v, .int .i64 at_] w (fun e w' => e = .returned (.bool true) ∧ Ext w w') := by
  have HT := hid hT
  have HPL := hid hT.lt
  have HKV := hid (fun W (hW : Ext w W) => snap_any (hv.below hW))
  have HA := hid (fun W (hW : Ext w W) => awake_any (hT.ext hW))
  obtain ⟨ka, kn, kc, ma, mn, mc, rfl, -⟩ := hv
  clear hT
  go_enter Tryz.func8, Tryz.ntmps8
  go_wp2
  have e1 := heap_alloc_new w (.cells #[.int .i64 y.op, .int .i64 y.s.i, .int .i64 y.s.t, .slice ka kn kc, .slice ma mn mc, .int .i64 y.size, .int .i64 y.n, .int .i64 y.keep, .int .i64 y.tear] 38)
  have z1 : (w.alloc (.cells #[.int .i64 y.op, .int .i64 y.s.i, .int .i64 y.s.t, .slice ka kn kc, .slice ma mn mc, .int .i64 y.size, .int .i64 y.n, .int .i64 y.keep, .int .i64 y.tear] 38)).heap.size = w.heap.size + 1 := World.size_alloc ..
  have x1 := ext_alloc w (.cells #[.int .i64 y.op, .int .i64 y.s.i, .int .i64 y.s.t, .slice ka kn kc, .slice ma mn mc, .int .i64 y.size, .int .i64 y.n, .int .i64 y.keep, .int .i64 y.tear] 38)
  generalize w.alloc (.cells #[.int .i64 y.op, .int .i64 y.s.i, .int .i64 y.s.t, .slice ka kn kc, .slice ma mn mc, .int .i64 y.size, .int .i64 y.n, .int .i64 y.keep, .int .i64 y.tear] 38) = W1 at *
  have e2 := heap_alloc_new W1 (.cells #[.int .i64 0, .int .i64 0, .slice none 0 0, .slice none 0 0, .bool false, .pointer none] 72)
  have z2 : (W1.alloc (.cells #[.int .i64 0, .int .i64 0, .slice none 0 0, .slice none 0 0, .bool false, .pointer none] 72)).heap.size = W1.heap.size + 1 := World.size_alloc ..
  have x2 := ext_alloc W1 (.cells #[.int .i64 0, .int .i64 0, .slice none 0 0, .slice none 0 0, .bool false, .pointer none] 72)
  generalize W1.alloc (.cells #[.int .i64 0, .int .i64 0, .slice none 0 0, .slice none 0 0, .bool false, .pointer none] 72) = W2 at *
  have e3 := heap_alloc_new W2 (.cells #[.pointer none, .pointer (some ⟨w.heap.size + 1, 0, none⟩)] 34)
  have z3 : (W2.alloc (.cells #[.pointer none, .pointer (some ⟨w.heap.size + 1, 0, none⟩)] 34)).heap.size = W2.heap.size + 1 := World.size_alloc ..
  have x3 := ext_alloc W2 (.cells #[.pointer none, .pointer (some ⟨w.heap.size + 1, 0, none⟩)] 34)
  generalize W2.alloc (.cells #[.pointer none, .pointer (some ⟨w.heap.size + 1, 0, none⟩)] 34) = W3 at *
  have x13 := x2.trans' x3
  have e1 := (x13.block w.heap.size (by omega)).trans e1
  have e2 := (x3.block W1.heap.size (by omega)).trans e2
  rw [z1] at e2
  rw [show W2.heap.size = w.heap.size + 1 + 1 by omega] at e3
  have HX3 := hid (x1.trans' x13)
  have HB := hid (fun W (hW : Ext W3 W) => (show W.heap[w.heap.size]? = some (.cells #[.int .i64 y.op, .int .i64 y.s.i, .int .i64 y.s.t, .slice ka kn kc, .slice ma mn mc, .int .i64 y.size, .int .i64 y.n, .int .i64 y.keep, .int .i64 y.tear] 38 (0, 0)) ∧ NoVault W (some ⟨w.heap.size + 1, 0, none⟩) ∧ W.cell? ⟨w.heap.size + 1 + 1, 0, none⟩ = some (.pointer none) ∧ W.cell? ⟨w.heap.size + 1 + 1, 1, none⟩ = some (.pointer (some ⟨w.heap.size + 1, 0, none⟩)) from by
    have f3 := (hW.block (w.heap.size + 1 + 1) (by omega)).trans e3
    have f2 := (hW.block (w.heap.size + 1) (by omega)).trans e2
    exact ⟨(hW.block w.heap.size (by omega)).trans e1, .inr ⟨_, rfl, (cells6 f2).1.2.2.2.2.2⟩, by simp [World.cell?, f3], by simp [World.cell?, f3]⟩))
  clear e1 e2 e3 z1 z2 z3 x1 x2 x3 x13
  go_loopw [6, 7, 8, 9, 10, 11, 28] (fun _ _ _ _ _ _ z wr => ∃ k : Nat, k ≤ 2 ∧ z = .int .i64 (k : Int) ∧ Hid (Ext W3 wr)) (fun _ _ _ _ _ _ z _ => 2 - (intOf z).toNat)
  case atStart => exact ⟨0, by omega, rfl, Below.refl _ _⟩
  case round =>
    obtain ⟨k, hk, rfl, HX⟩ := hrel
    obtain ⟨hdo, hnv, r0, r1⟩ := HB.out wr HX.out
    have HNV := hid hnv
    have hk4 : k = 0 ∨ k = 1 ∨ k = 2 := by omega
    rcases hk4 with hk4 | hk4 | hk4
    · subst hk4
      obtain ⟨j0, j1, j2, j3, j4, j5, j6, j7, j8⟩ := cells9a hdo
      go_wp2_with fail
      refine Calls.mono (Last_none none (.inl rfl)) ?_
      rintro e w4 ⟨v4, rfl, hs4, hx4⟩
      obtain ⟨na, nn, nc, ra, rn, rc, rfl, -, -, -, -⟩ := id hs4
      have HX4 := hid hx4
      have hx5 := ext_alloc w4 (.cells #[.int .i64 sn0.i, .int .i64 sn0.t, .slice na nn nc, .slice ra rn rc] 25)
      have hn5 := heap_alloc_new w4 (.cells #[.int .i64 sn0.i, .int .i64 sn0.t, .slice na nn nc, .slice ra rn rc] 25)
      have hz5 : w4.heap.size < (w4.alloc (.cells #[.int .i64 sn0.i, .int .i64 sn0.t, .slice na nn nc, .slice ra rn rc] 25)).heap.size := by simp
      have HS5 := hid (hs4.below hx5)
      clear hs4 hx4
      go_wp2_with fail
      generalize w4.alloc (.cells #[.int .i64 sn0.i, .int .i64 sn0.t, .slice na nn nc, .slice ra rn rc] 25) = w5 at *
      have HX5 := hid (HX4.out.trans' hx5)
      have HN5 := hid hn5
      have HZ5 := hid hz5
      clear hx5 hn5 hz5
      refine Calls.mono (Piece_none none (.inl rfl) at_) ?_
      rintro e w6 ⟨a6, n6, c6, rfl, hb6, hx6⟩
      have hn6 : n6 = 0 := hb6.1
      subst hn6
      have HX6 := hid (HX5.out.trans' hx6)
      have hb := (hx6.block _ HZ5.out).trans HN5.out
      obtain ⟨⟨t0, t1, t2, t3⟩, -, -⟩ := cells4 hb
      have HS6 := hid (HS5.out.below hx6)
      have HX36 := hid (HX.out.trans' HX6.out)
      have hdo6 := (HB.out w6 HX36.out).1
      clear hx6 hb6 hb
      go_wp2_with fail
      refine Calls.mono (Same_any HS6.out (SnV.zero (fun _ => True) w6)) ?_
      rintro e w7 ⟨he, hx7⟩
      rw [show sameS sn0 sn0 = true from sameS_iff.2 rfl] at he
      subst he
      have HX7 := hid (HX36.out.trans' hx7)
      have hdo7 := (HB.out w7 HX7.out).1
      obtain ⟨i0, i1, i2, i3, i4, i5, i6, i7, i8⟩ := cells9a hdo7
      clear j0 j1 j2 j3 j4 j5 j6 j7 j8 hx7 hdo6
      go_wp2_with fail
      refine Calls.mono (HKV.out w7 (HX3.out.trans' HX7.out)) ?_
      rintro e w8 ⟨x0, x1, x2, x3, rfl, -, hx8⟩
      have HX8 := hid (HX7.out.trans' hx8)
      go_wp2_with fail
      refine Calls.mono (Save_none none (.inl rfl) x0 x1 x2 x3) ?_
      rintro e w9 ⟨rfl, hx9⟩
      have HX9 := hid (HX8.out.trans' hx9)
      clear hx8 hx9
      go_wp2
      go_roundw
      case rel => exact ⟨1, by omega, by go_num, HX9.out⟩
      case measure => simp [intOf]
    · subst hk4
      obtain ⟨j0, j1, j2, j3, j4, j5, j6, j7, j8⟩ := cells9a hdo
      go_wp2_with fail
      refine Calls.mono (Last_none (some ⟨w.heap.size + 1, 0, none⟩) (HNV.out.ext (Below.refl _ _))) ?_
      rintro e w4 ⟨v4, rfl, hs4, hx4⟩
      obtain ⟨na, nn, nc, ra, rn, rc, rfl, -, -, -, -⟩ := id hs4
      have HX4 := hid hx4
      have hx5 := ext_alloc w4 (.cells #[.int .i64 sn0.i, .int .i64 sn0.t, .slice na nn nc, .slice ra rn rc] 25)
      have hn5 := heap_alloc_new w4 (.cells #[.int .i64 sn0.i, .int .i64 sn0.t, .slice na nn nc, .slice ra rn rc] 25)
      have hz5 : w4.heap.size < (w4.alloc (.cells #[.int .i64 sn0.i, .int .i64 sn0.t, .slice na nn nc, .slice ra rn rc] 25)).heap.size := by simp
      have HS5 := hid (hs4.below hx5)
      clear hs4 hx4
      go_wp2_with fail
      generalize w4.alloc (.cells #[.int .i64 sn0.i, .int .i64 sn0.t, .slice na nn nc, .slice ra rn rc] 25) = w5 at *
      have HX5 := hid (HX4.out.trans' hx5)
      have HN5 := hid hn5
      have HZ5 := hid hz5
      clear hx5 hn5 hz5
      refine Calls.mono (Piece_none (some ⟨w.heap.size + 1, 0, none⟩) (HNV.out.ext HX5.out) at_) ?_
      rintro e w6 ⟨a6, n6, c6, rfl, hb6, hx6⟩
      have hn6 : n6 = 0 := hb6.1
      subst hn6
      have HX6 := hid (HX5.out.trans' hx6)
      have hb := (hx6.block _ HZ5.out).trans HN5.out
      obtain ⟨⟨t0, t1, t2, t3⟩, -, -⟩ := cells4 hb
      have HS6 := hid (HS5.out.below hx6)
      have HX36 := hid (HX.out.trans' HX6.out)
      have hdo6 := (HB.out w6 HX36.out).1
      clear hx6 hb6 hb
      go_wp2_with fail
      refine Calls.mono (Same_any HS6.out (SnV.zero (fun _ => True) w6)) ?_
      rintro e w7 ⟨he, hx7⟩
      rw [show sameS sn0 sn0 = true from sameS_iff.2 rfl] at he
      subst he
      have HX7 := hid (HX36.out.trans' hx7)
      have hdo7 := (HB.out w7 HX7.out).1
      obtain ⟨i0, i1, i2, i3, i4, i5, i6, i7, i8⟩ := cells9a hdo7
      clear j0 j1 j2 j3 j4 j5 j6 j7 j8 hx7 hdo6
      go_wp2_with fail
      refine Calls.mono (HKV.out w7 (HX3.out.trans' HX7.out)) ?_
      rintro e w8 ⟨x0, x1, x2, x3, rfl, -, hx8⟩
      have HX8 := hid (HX7.out.trans' hx8)
      go_wp2_with fail
      refine Calls.mono (Save_none (some ⟨w.heap.size + 1, 0, none⟩) ((HB.out w8 HX8.out).2.1) x0 x1 x2 x3) ?_
      rintro e w9 ⟨rfl, hx9⟩
      have HX9 := hid (HX8.out.trans' hx9)
      clear hx8 hx9
      go_wp2
      go_roundw
      case rel => exact ⟨2, by omega, by go_num, HX9.out⟩
      case measure => simp [intOf]
    · subst hk4
      clear hdo r0 r1 hnv
      generalize wr = wy at *
      go_wp2
      have e2 := heap_alloc_new wy (.cells #[.bool false, .int .i64 0, .int .i64 0, .int .i64 0, .int .i64 0, .map none, .map none, .slice none 0 0] 82)
      have z2 : (wy.alloc (.cells #[.bool false, .int .i64 0, .int .i64 0, .int .i64 0, .int .i64 0, .map none, .map none, .slice none 0 0] 82)).heap.size = wy.heap.size + 1 := World.size_alloc ..
      have x2 := ext_alloc wy (.cells #[.bool false, .int .i64 0, .int .i64 0, .int .i64 0, .int .i64 0, .map none, .map none, .slice none 0 0] 82)
      generalize wy.alloc (.cells #[.bool false, .int .i64 0, .int .i64 0, .int .i64 0, .int .i64 0, .map none, .map none, .slice none 0 0] 82) = V2 at *
      have e3 := heap_alloc_new V2 (.cells #[.pointer none, .pointer (some ⟨wy.heap.size, 0, none⟩)] 33)
      have z3 : (V2.alloc (.cells #[.pointer none, .pointer (some ⟨wy.heap.size, 0, none⟩)] 33)).heap.size = V2.heap.size + 1 := World.size_alloc ..
      have x3 := ext_alloc V2 (.cells #[.pointer none, .pointer (some ⟨wy.heap.size, 0, none⟩)] 33)
      generalize V2.alloc (.cells #[.pointer none, .pointer (some ⟨wy.heap.size, 0, none⟩)] 33) = V3 at *
      have e2 := (x3.block wy.heap.size (by omega)).trans e2
      rw [show V2.heap.size = wy.heap.size + 1 by omega] at e3
      have HV3 := hid ((HX3.out.trans' HX.out).trans' (x2.trans' x3))
      have HB2 := hid (fun W (hW : Ext V3 W) => (show NoDisk W (some ⟨wy.heap.size, 0, none⟩) ∧ W.cell? ⟨wy.heap.size + 1, 0, none⟩ = some (.pointer none) ∧ W.cell? ⟨wy.heap.size + 1, 1, none⟩ = some (.pointer (some ⟨wy.heap.size, 0, none⟩)) from by
        have f3 := (hW.block (wy.heap.size + 1) (by omega)).trans e3
        have f2 := (hW.block wy.heap.size (by omega)).trans e2
        exact ⟨.inr ⟨_, rfl, by simp [World.cell?, f2]⟩, by simp [World.cell?, f3], by simp [World.cell?, f3]⟩))
      clear e2 e3 z2 z3 x2 x3
      go_loopw [13, 14, 15, 75] (fun _ _ _ z wr => ∃ k : Nat, k ≤ 2 ∧ z = .int .i64 (k : Int) ∧ Hid (Ext V3 wr)) (fun _ _ _ z _ => 2 - (intOf z).toNat)
      case atStart => exact ⟨0, by omega, rfl, Below.refl _ _⟩
      case round =>
        obtain ⟨k, hk, rfl, HXV⟩ := hrel
        obtain ⟨hnd, r0, r1⟩ := HB2.out wr HXV.out
        have HND := hid hnd
        clear hnd
        have hk4 : k = 0 ∨ k = 1 ∨ k = 2 := by omega
        rcases hk4 with hk4 | hk4 | hk4
        · subst hk4
          go_wp2_with fail
          refine Calls.mono (Open_none (.inl rfl)) ?_
          rintro e w4 ⟨rfl, hx4⟩
          have HX4 := hid (HXV.out.trans' hx4)
          clear hx4
          go_wp2
          go_roundw
          case rel => exact ⟨_, _, _, _, _, _, _, _, _, _, _, _, _, _, _, _, _, _, _, _, ⟨1, by omega, by go_num, HX4.out⟩, rfl⟩
          case measure => simp [intOf]
        · subst hk4
          go_wp2_with fail
          refine Calls.mono (Open_none HND.out) ?_
          rintro e w4 ⟨rfl, hx4⟩
          have HX4 := hid (HXV.out.trans' hx4)
          clear hx4
          go_wp2
          go_roundw
          case rel => exact ⟨_, _, _, _, _, _, _, _, _, _, _, _, _, _, _, _, _, _, _, _, ⟨2, by omega, by go_num, HX4.out⟩, rfl⟩
          case measure => simp [intOf]
        · subst hk4
          clear r0 r1
          go_wp2_with fail
          refine Calls.mono (New_any 9 wr) ?_
          rintro e w4 (⟨-, -, dg, rfl, hd, hx4⟩ | ⟨hno, -⟩)
          · have HX4 := hid ((HV3.out.trans' HXV.out).trans' hx4)
            have hDD : ∀ q, grow (fun _ => False) wr w4 q → w.heap.size ≤ q := fun q hq => by
              rcases hq with hq | hq
              · exact hq.elim
              · have := (HV3.out.trans' HXV.out).size; omega
            have hokd := DS.new_ok 9 (by decide) (by decide)
            have hcr := Crash_at hd hokd (by show (0 : Nat) < _; omega) 0 0 ⟨by decide, by decide⟩ ⟨by decide, by decide⟩
            have HCR := hid hcr
            have HDD := hid hDD
            have HOKC := hid (hokd.crash 0 0)
            clear hd hDD hokd hcr hx4
            go_wp2_with fail
            refine Calls.mono HCR.out ?_
            rintro e w5 hp5
            obtain ⟨hx5, hd5, hD5⟩ := DoPost.ext HX4.out HDD.out hp5
            obtain ⟨rfl, -, -⟩ := hp5
            have hO := Open_any hd5 HOKC.out (fun p hp => by cases hp) (by show (0 : Nat) ≤ _; omega) (HT.out.ext hx5) (fun h => by have h1 := hD5 _ h; have h2 := HPL.out; omega)
            rw [open_off] at hO
            have HO := hid hO
            have HX5 := hid hx5
            have HD5 := hid hD5
            clear hO hx5 hd5 hD5
            go_wp2_with fail
            refine Calls.mono HO.out ?_
            rintro e w6 (⟨-, rfl, -, hf6⟩ | ⟨h, -⟩)
            · have HX6 := hid (ext_frm HX5.out hf6 HD5.out)
              clear hf6
              go_wp2_with fail
              refine Calls.mono (Take_nil w6 1 1 at_ none 0 0 true) ?_
              rintro e w7 ⟨rfl, rfl⟩
              go_wp2_with fail
              refine Calls.mono (Have_nil _ 1 1) ?_
              rintro e w8 ⟨rfl, rfl⟩
              go_wp2_with fail
              refine Calls.mono (HA.out _ HX6.out) ?_
              rintro e w9 ⟨rfl, hx9⟩
              go_wp2
              go_ret
              exact ⟨rfl, HX6.out.trans' hx9⟩
            · cases h
          · exact absurd ⟨by decide, by decide⟩ hno
end Go.Proofs.YtjapeaoebjmpnaaGreatDoor
