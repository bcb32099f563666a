/- The walk of Pick. -/
import Derived.Test.YtikjckdoldiddaaGreatDoorC06
import Derived.Deep.RegionHeld3
namespace Go.Proofs.YtikjckdoldiddaaGreatDoor
open Go.RowKit Go.Maps
set_option linter.unusedVariables false
set_option linter.unusedSimpArgs false
attribute [local go_sem] bmax2 bmin2 bmax_two bmin_two

/-- What Pick leaves. -/
def PickPost (r : By × Nat × Int) (w : World) (e : Ending) (w' : World) : Prop :=
  ∃ a n c, e = .returned (.tuple #[.slice a n c, .int .i64 (r.2.1 : Int), .int .i64 r.2.2]) ∧ ByF (fun q => w.heap.size ≤ q ∧ q < w'.heap.size) w' a n c r.1 ∧ Ext w w'
theorem pick_none {w w' : World} (hx : Ext w w') (z : Int) : PickPost ([], 0, z) w (.returned (.tuple #[.slice none 0 0, .int .i64 0, .int .i64 z])) w' :=
  ⟨none, 0, 0, rfl, ByF.nil_ _ _, hx⟩

theorem ext_frm {D : Nat → Prop} {w w1 w2 : World} (h : Ext w w1) (k : Frm D w1 w2) (hD : ∀ q, D q → w.heap.size ≤ q) : Ext w w2 :=
  ((Frm.of_ext h (fun _ => False)).trans k fun q hq => .inr (hD q hq)).ext

set_option maxRecDepth 100000 in
set_option maxHeartbeats 4000000 in
theorem Pick_any {F : Nat → Prop} {w : World} {a : Option Addr} {n c : Nat} {b : By} (hb : ByF F w a n c b) (hn : n ≤ 1000000000) :
    Calls Tryz.prog 133 #[.slice a n c] w (PickPost (pickB b) w) := by
  have hnb := hb.1
  cases b with
  | nil =>
    obtain rfl : n = 0 := hnb
    show Calls _ _ _ _ (PickPost ([], 0, 2) w)
    clear hb
    go_enter Tryz.func133, Tryz.ntmps133
    go_wp2
    go_ret3
    exact pick_none (Below.refl _ _) 2
  | cons x r =>
    have hnl : n = r.length + 1 := hnb
    obtain ⟨ab, ao, rfl, hF, hbl, hl0, q0⟩ := hb.at_ (k := 0) (by omega)
    rw [Nat.add_zero] at q0
    change w.cell? ⟨ab, ao, none⟩ = some (.int .u8 (x.toNat : Int)) at q0
    obtain ⟨xn, hxn⟩ : ∃ xn, xn = x.toNat := ⟨_, rfl⟩
    have hxl : xn < 256 := hxn ▸ x.toNat_lt
    have hx93 : x = 93 ↔ xn = 93 := by
      rw [hxn, ← UInt8.toNat_inj]
      exact Iff.rfl
    rw [← hxn] at q0
    have HNB := hid hnb
    obtain ⟨m, hm⟩ : ∃ m, m = r.length := ⟨_, rfl⟩
    rw [← hm] at hnl
    have hp : pickB (x :: r) = (if x ≠ 93 then ([], 0, 10) else
      if (readB r).2.2 ≠ 0 then ([], 0, (readB r).2.2) else
      if 65536 < (readB r).1 then ([], 0, 4) else
      if (x :: r).length < 1 + (readB r).2.1 + (readB r).1 + 4 then ([], 0, 2) else
      if ((x :: r).drop (1 + (readB r).2.1 + (readB r).1)).take 4 ≠ fourB (crc ((x :: r).take (1 + (readB r).2.1 + (readB r).1))) then ([], 0, 11) else
      (((x :: r).drop (1 + (readB r).2.1)).take (readB r).1, 1 + (readB r).2.1 + (readB r).1 + 4, 0)) := rfl
    rw [hp]
    clear hp
    by_cases h93 : xn = 93
    · obtain rfl := hx93.2 h93
      rw [if_neg (by simp)]
      obtain ⟨a1, m1, k1, s1, s2, hb1⟩ := cut_l hb 1 (by omega) (by omega)
      change ByF F w a1 m1 k1 r at hb1
      have hm1 := hb1.1
      have HO := hid (Over_any hb1 (by omega))
      have HM1 := hid hm1
      have HB := hid hb
      have HHM := hid hm
      have HNL := hid hnl
      have hnp : 1 ≤ n := by omega
      have hn0 : ((n : Int) == 0) = false := by simp; omega
      clear hnl hb hnb hx93 hxn hm1 hm hb1
      subst h93
      obtain ⟨rr, hrr⟩ : ∃ rr, rr = readB r := ⟨_, rfl⟩
      rw [← hrr]
      have HRR := hid hrr
      obtain ⟨pv, hpv⟩ : ∃ pv : By × Nat × Int, pv = (if rr.2.2 ≠ 0 then ([], 0, rr.2.2) else
        if 65536 < rr.1 then ([], 0, 4) else
        if ((93 : UInt8) :: r).length < 1 + rr.2.1 + rr.1 + 4 then ([], 0, 2) else
        if (((93 : UInt8) :: r).drop (1 + rr.2.1 + rr.1)).take 4 ≠ fourB (crc (((93 : UInt8) :: r).take (1 + rr.2.1 + rr.1))) then ([], 0, 11) else
        ((((93 : UInt8) :: r).drop (1 + rr.2.1)).take rr.1, 1 + rr.2.1 + rr.1 + 4, 0)) := ⟨_, rfl⟩
      rw [← hpv]
      have HPV := hid hpv
      clear hrr hpv
      go_enter Tryz.func133, Tryz.ntmps133
      go_wp2_with fail
      refine Calls.mono HO.out ?_
      rintro e w1 ⟨g, rfl, hgw, hsc, hx1⟩
      have hnum : (Sc.mk r 0 0).num = (Sc.mk r 0 0).numV rr := by
        rw [HRR.out]
        unfold Sc.num
        rw [if_neg (by simp), List.drop_zero]
      have hN := SNumber_any hsc
      rw [hnum] at hN
      have HSN := hid hN
      have HX1 := hid hx1
      clear hN hnum hsc hx1
      go_wp2_with fail
      refine Calls.mono HSN.out ?_
      rintro e w2 ⟨rfl, hsc2, hf2⟩
      obtain ⟨v, k, z⟩ := rr
      have hx2 : Ext w w2 := ext_frm HX1.out hf2 fun q hq => hq.1
      have HX2 := hid hx2
      have HF2 := hid hf2
      clear hf2 hx2 HSN HO
      by_cases hz : z ≠ 0
      · have hnv : (Sc.mk r 0 0).numV (v, k, z) = (0, Sc.mk r 0 z) := by unfold Sc.numV; rw [if_pos hz]
        rw [hnv] at hsc2 ⊢
        obtain ⟨-, c1, f1, hgl⟩ := hsc2.err_lt
        obtain ⟨g1, a2, n2, c2, t1, t2, -, -, -, -, -⟩ := hsc2
        have c0 : w2.cell? ⟨g, 0, none⟩ = some (.pointer (some ⟨g1, 0, none⟩)) := by simp [World.cell?, t1]
        have c3 : w2.cell? ⟨g1, 1, none⟩ = some (.int .i64 0) := by simp [World.cell?, t2]
        have hpv : pv = ([], 0, z) := by rw [HPV.out, if_pos hz]
        have HP := hid hpv
        have hzb : (z != 0) = true := by simpa using hz
        clear t1 t2 hpv hnv hz
        go_wp2
        refine wp_region_quiet_lit (by kernel_rfl) (by kernel_rfl) ?_
        repeat (any_goals (first | go_big_quiet_step (fail) | quiet_step (fail)))
        refine wpQuiet_nil ?_
        intro wq hwq
        obtain ⟨nq, hwq⟩ := hwq
        subst hwq
        go_wp2
        go_ret3
        rw [HP.out]
        exact pick_none (HX2.out.trans' (ext_drewN _ _)) z
      obtain rfl : z = 0 := by simpa using hz
      clear hz
      have hnv : (Sc.mk r 0 0).numV (v, k, 0) = (v, Sc.mk r (0 + k) 0) := by unfold Sc.numV; rw [if_neg (by simp)]
      rw [hnv, Nat.zero_add] at hsc2
      rw [hnv]
      obtain ⟨-, c1, f1, hgl⟩ := hsc2.err_lt
      obtain ⟨g1, a2, n2, c2, t1, t2, t3, hk, -, -, -⟩ := hsc2
      have c0 : w2.cell? ⟨g, 0, none⟩ = some (.pointer (some ⟨g1, 0, none⟩)) := by simp [World.cell?, t1]
      have c3 : w2.cell? ⟨g1, 1, none⟩ = some (.int .i64 k) := by simp [World.cell?, t2]
      have hkm : 1 + k ≤ n := by
        have h1 := t3.1
        have h2 := HHM.out
        have h3 := HNL.out
        change k ≤ n2 at hk
        change n2 = r.length at h1
        omega
      change w2.cell? ⟨g, 1, none⟩ = some (.int .i64 0) at c1
      obtain ⟨at_, hat⟩ : ∃ at_, at_ = 1 + k := ⟨_, rfl⟩
      have hati : (1 : Int) + (k : Int) = (at_ : Int) := by omega
      have hatn : at_ ≤ n := by omega
      have HAT := hid hat
      have hlen : ((93 : UInt8) :: r).length = n := HNB.out.symm
      have hpv := HPV.out
      dsimp only at hpv
      rw [if_neg (by simp), hlen, ← hat] at hpv
      have HPV2 := hid hpv
      clear t1 t2 t3 hk hkm hat hlen hpv HPV hnv HRR
      by_cases hv : 65536 < v
      · have hpv := HPV2.out
        rw [if_pos hv] at hpv
        have HP := hid hpv
        clear hpv
        go_wp2
        go_ret3
        rw [HP.out]
        exact pick_none HX2.out 4
      obtain ⟨p, hp⟩ : ∃ p, p = at_ + v := ⟨_, rfl⟩
      have hpi : (at_ : Int) + (v : Int) = (p : Int) := by omega
      by_cases hs : n < at_ + v + 4
      · have hpv := HPV2.out
        rw [if_neg hv, if_pos hs] at hpv
        have HP := hid hpv
        clear hpv hp hpi
        go_wp2
        go_ret3
        rw [HP.out]
        exact pick_none HX2.out 2
      have hpv := HPV2.out
      rw [if_neg hv, if_neg hs, ← hp] at hpv
      obtain ⟨p4, hp4⟩ : ∃ p4, p4 = p + 4 := ⟨_, rfl⟩
      have hp4n : p4 ≤ n := by omega
      have hpw : IntKind.i64.wrap (p : Int) = (p : Int) := by rw [IntKind.wrap_i64]; omega
      have hpw4 : IntKind.i64.wrap (p4 : Int) = (p4 : Int) := by rw [IntKind.wrap_i64]; omega
      have hpi4 : (p : Int) + 4 = (p4 : Int) := by omega
      obtain ⟨a4, m4, k4, u1, u2, hb4⟩ := cut_lh HB.out (p : Int) (p4 : Int) (by omega) (by omega) (by omega)
      obtain ⟨a5, m5, k5, u3, u4, hb5⟩ := cut_h HB.out (p : Int) (by omega) (by omega)
      rw [Int.toNat_natCast] at hb5
      rw [Int.toNat_natCast, Int.toNat_natCast] at hb4
      obtain ⟨d4, hd4⟩ : ∃ d4, d4 = (((93 : UInt8) :: r).take p4).drop p := ⟨_, rfl⟩
      obtain ⟨d5, hd5⟩ : ∃ d5, d5 = ((93 : UInt8) :: r).take p := ⟨_, rfl⟩
      have hd4t : (((93 : UInt8) :: r).drop p).take 4 = d4 := by rw [hd4, hp4, List.drop_take, Nat.add_sub_cancel_left]
      have hl4 : d4.length = 4 := by rw [hd4, List.length_drop, List.length_take]; have := HNB.out; omega
      rw [← hd4] at hb4
      rw [← hd5] at hb5
      rw [hd4t, ← hd5] at hpv
      obtain rfl : m4 = 4 := by rw [← hl4]; exact hb4.1
      obtain ⟨a4, rfl⟩ : ∃ q, a4 = some q := by
        cases a4 with
        | none => have := hb4.2.2.2.1 rfl; have := hb4.2.1; omega
        | some q => exact ⟨q, rfl⟩
      obtain ⟨b4, o4, e4, -⟩ := hb4.at_ (k := 0) (by omega)
      injection e4 with e4
      subst e4
      obtain ⟨y0, y1, y2, y3, hy4⟩ : ∃ y0 y1 y2 y3 : UInt8, d4 = [y0, y1, y2, y3] := by
        match d4, hl4 with
        | [y0, y1, y2, y3], _ => exact ⟨y0, y1, y2, y3, rfl⟩
      rw [hy4] at hb4
      have hcl : ∀ W, Ext w W → Ext w W ∧ W.cell? ⟨b4, o4, none⟩ = some (.int .u8 (y0.toNat : Int)) ∧ W.cell? ⟨b4, o4 + 1, none⟩ = some (.int .u8 (y1.toNat : Int)) ∧ W.cell? ⟨b4, o4 + 2, none⟩ = some (.int .u8 (y2.toNat : Int)) ∧ W.cell? ⟨b4, o4 + 3, none⟩ = some (.int .u8 (y3.toNat : Int)) := by
        intro W hW
        have hq := (hb4.below hW).2.2.2.2 _ rfl
        exact ⟨hW, (hq.2 0 (by simp)).2, (hq.2 1 (by simp)).2, (hq.2 2 (by simp)).2, (hq.2 3 (by simp)).2⟩
      have HS3 := hid hcl
      have har := fun W => arr_at (a := ⟨b4, o4, none⟩) (k := k4) (Nat.le_refl 4) W
      obtain ⟨cz, hcz⟩ : ∃ cz, cz = crc d5 := ⟨_, rfl⟩
      have hczl : cz < 4294967296 := hcz ▸ crc_lt d5
      rw [← hcz] at hpv
      have hSum := fun W (hW : Ext w W) => Sum_any (bs_one ((hb5.below hW).more (G := fun _ => True) fun _ _ => trivial) 37)
      have hfl : ([d5] : List By).flatten = d5 := by simp
      rw [hfl, ← hcz] at hSum
      have HSum := hid hSum
      obtain ⟨z0, z1, z2, z3, hfb, hfv⟩ : ∃ z0 z1 z2 z3 : UInt8, fourB cz = [z0, z1, z2, z3] ∧ fourV cz = .agg #[.int .u8 (z0.toNat : Int), .int .u8 (z1.toNat : Int), .int .u8 (z2.toNat : Int), .int .u8 (z3.toNat : Int)] := ⟨_, _, _, _, rfl, rfl⟩
      obtain ⟨bq, hbq⟩ : ∃ bq, bq = (d4 == fourB cz) := ⟨_, rfl⟩
      have hFour := fun W => four_any (w := W) hczl
      rw [hfv] at hFour
      have HFour := hid hFour
      have hne : ∀ W, (binOp .neq 195 (.agg #[.int .u8 (y0.toNat : Int), .int .u8 (y1.toNat : Int), .int .u8 (y2.toNat : Int), .int .u8 (y3.toNat : Int)]) (.agg #[.int .u8 (z0.toNat : Int), .int .u8 (z1.toNat : Int), .int .u8 (z2.toNat : Int), .int .u8 (z3.toNat : Int)])).run Tryz.prog W = .ok (.bool (!bq)) W := fun W => by
        rw [hbq, hy4, hfb]
        exact neq4 (d := [y0, y1, y2, y3]) (e := [z0, z1, z2, z3]) rfl rfl W
      have HBQ := hid hbq
      clear hfb hfv hbq hcl hFour hy4
      have HPV3 := hid hpv
      have hvn : ¬ 65536 < v := hv
      have HP := hid hp
      have HP4 := hid hp4
      clear hpv hp hp4 hd4 hd5 hd4t hb4 hb5 hcz hSum hfl HPV2 hczl hl4
      obtain ⟨a6, m6, k6, u5, u6, hb6⟩ := cut_lh HB.out (at_ : Int) (p : Int) (by omega) (by omega) (by omega)
      rw [Int.toNat_natCast, Int.toNat_natCast, List.drop_take, show p - at_ = v by have := HP.out; omega] at hb6
      obtain ⟨d6, hd6⟩ : ∃ d6, d6 = (((93 : UInt8) :: r).drop at_).take v := ⟨_, rfl⟩
      rw [← hd6] at hb6
      have hdl : d6.length ≤ 65536 := by rw [hd6, List.length_take]; omega
      have hJ := fun W (hW : Ext w W) => Join_any (bs_one ((hb6.below hW).more (G := fun _ => True) fun _ _ => trivial) 37) (by simp; omega)
      have hfl : ([d6] : List By).flatten = d6 := by simp
      rw [hfl] at hJ
      have HJ := hid hJ
      have HD6 := hid hd6
      have hm6 : m6 ≤ 140737488351232 := hb6.2.2.1.2
      have HM6 := hid hb6.1
      have hdl2 := hid hdl
      clear hJ hfl hd6 hb6 hdl
      go_wp2
      go_region_held3 (fun W => Ext w W ∧ W.cell? ⟨b4, o4, none⟩ = some (.int .u8 (y0.toNat : Int)) ∧ W.cell? ⟨b4, o4 + 1, none⟩ = some (.int .u8 (y1.toNat : Int)) ∧ W.cell? ⟨b4, o4 + 2, none⟩ = some (.int .u8 (y2.toNat : Int)) ∧ W.cell? ⟨b4, o4 + 3, none⟩ = some (.int .u8 (y3.toNat : Int)))
        (first | exact HS3.out _ (Ext.trans' HX2.out (ext_drew _)) | exact HS3.out _ (by assumption) | exact HS3.out _ (Ext.trans' (Ext.trans' HX2.out (ext_alloc _ _)) (ext_drew _)) | exact HS3.out _ y4)
        (first
          | (go_at_call 154; refine Calls.mono (HSum.out w2.drew (Ext.trans' HX2.out (ext_drew _))) ?_; rintro e w4 ⟨rfl, rfl⟩)
          | (go_at_call 153; refine Calls.mono (HFour.out _) ?_; rintro e w4 ⟨rfl, hx4⟩; have y4 : Ext w w4 := Ext.trans' (Ext.trans' (Ext.trans' HX2.out (ext_alloc _ _)) (ext_drew _)) hx4))
      all_goals
        cases bq with
        | true =>
          have hdd : d4 = fourB cz := by simpa using HBQ.out.symm
          have hpv := HPV3.out
          rw [if_neg (fun h => h hdd)] at hpv
          have HPF := hid hpv
          clear hdd hpv
          go_wp2_with fail
          refine Calls.mono (HJ.out _ y4) ?_
          rintro e w5 ⟨g5, n5, c5, rfl, hv5, hx5⟩
          have HV := hid hv5
          clear hv5
          go_wp2
          go_ret3
          rw [HPF.out]
          have hzz := y4.size
          have hn5 : n5 ≤ 140737488351232 := by have := HV.out.1; have := hdl2.out; omega
          refine ⟨some ⟨g5, 0, none⟩, n5, c5, ?_, ?_, (y4.trans' (ext_alloc _ _)).trans' hx5⟩
          · have e1 : ((p + 4 : Nat) : Int) = (p4 : Int) := by have := HP4.out; omega
            rw [e1]
            rfl
          have := (HV.out.by_ hn5).more (G := fun q => w.heap.size ≤ q ∧ q < w5.heap.size) fun q hq => ⟨by have := hq.1; simp at this; omega, hq.2⟩
          rw [HD6.out] at this
          exact this
        | false =>
          have hdd : d4 ≠ fourB cz := by simpa using HBQ.out.symm
          have hpv := HPV3.out
          rw [if_pos hdd] at hpv
          have HPF := hid hpv
          clear hdd hpv
          go_wp2
          go_ret3
          rw [HPF.out]
          exact pick_none y4 11
    rw [if_pos (fun h => h93 (hx93.1 h))]
    have hne : ((xn : Int) != 93) = true := by simp; omega
    have HNL := hid hnl
    have hnp : 1 ≤ n := by omega
    have hn0 : ((n : Int) == 0) = false := by simp; omega
    clear hx93 hb hnb hxn hm h93 hnl
    go_enter Tryz.func133, Tryz.ntmps133
    go_wp2
    go_ret3
    exact pick_none (Below.refl _ _) 10
end Go.Proofs.YtikjckdoldiddaaGreatDoor

/- Slices of bytes in a row of the call's own; the walk of Rows. -/
namespace Go.Proofs.YtikjckdoldiddaaGreatDoor
open Go.RowKit Go.Maps
set_option linter.unusedVariables false
set_option linter.unusedSimpArgs false
attribute [local go_sem] bmax2 bmin2 bmax_two bmin_two

theorem info_sl : (Tryz.prog.info? 37).map (fun i => (i.zero, i.size, i.bytes)) = some (some (.slice none 0 0), 1, 24) := by kernel_rfl

/-- Slices of bytes in a row of the call's own. -/
def OwnR (B : Nat) (w : World) (v : Value) (L : List By) : Prop :=
  ∃ H : List Value, H.length = L.length ∧ w.ownsRow B 37 1 v H.length H ∧
    ∀ k (h1 : k < H.length) (h2 : k < L.length), ∃ a n c, H[k] = .slice a n c ∧ ByF (fun q => v.ownBlock ≠ some q) w a n c L[k]
theorem OwnR.keep {B : Nat} {w w' : World} {v : Value} {L : List By} (h : OwnR B w v L) (hk : ∀ q, q < w.heap.size → w'.heap[q]? = w.heap[q]?) : OwnR B w' v L := by
  obtain ⟨H, h1, h2, h3⟩ := h
  refine ⟨H, h1, own_keep h2 fun q hq => hk q (own_cells h2 hq).1, fun k k1 k2 => ?_⟩
  obtain ⟨a, n, c, e, hb⟩ := h3 k k1 k2
  exact ⟨a, n, c, e, hb.keep fun q hq hl => ⟨hq, hk q hl⟩⟩
theorem OwnR.ext {B : Nat} {w w' : World} {v : Value} {L : List By} (h : OwnR B w v L) (hx : Ext w w') : OwnR B w' v L := h.keep hx.block
theorem OwnR.nil_ (B : Nat) (w : World) : OwnR B w (.slice none 0 0) [] := ⟨[], rfl, World.ownsRow_nil _ _ _ _, fun k h1 => by cases h1⟩
theorem OwnR.form {B : Nat} {w : World} {v : Value} {L : List By} (h : OwnR B w v L) : (v = .slice none 0 0 ∧ L = []) ∨ ∃ g c, v = .slice (some ⟨g, 0, none⟩) L.length c ∧ B ≤ g ∧ g < w.heap.size := by
  obtain ⟨H, h1, h2, h3⟩ := h
  rcases h2.2 with ⟨e1, e2⟩ | ⟨g, c, cur, e1, e2, e3, -⟩
  · exact .inl ⟨e1, List.eq_nil_of_length_eq_zero (h1.symm.trans e2)⟩
  exact .inr ⟨g, c, by rw [e1, h1], e2, (Array.getElem?_eq_some_iff.1 e3).1⟩
theorem OwnR.slice_ {B : Nat} {w : World} {v : Value} {L : List By} (h : OwnR B w v L) : ∃ a n c, v = .slice a n c := by
  rcases h.form with ⟨e1, -⟩ | ⟨g1, c1, e1, -⟩
  · exact ⟨_, _, _, e1⟩
  exact ⟨_, _, _, e1⟩
/-- As a row to read. -/
theorem OwnR.bs {B : Nat} {w : World} {a : Option Addr} {n c : Nat} {L : List By} (h : OwnR B w (.slice a n c) L) (hL : L.length ≤ 1000000000000) : BsF (fun _ => True) w a n c L := by
  obtain ⟨H, h1, h2, h3⟩ := h
  obtain ⟨e0, e1 | ⟨g, cap, cur, e1, e2, e3, e4, e5, e6, e7⟩⟩ := h2
  · obtain ⟨e1, e2⟩ := e1
    injection e1 with i1 i2 i3
    subst i1; subst i2; subst i3
    exact ⟨by omega, Nat.le_refl _, ⟨by unfold maxLen; omega, by omega⟩, fun _ => rfl, fun p hp => by cases hp⟩
  injection e1 with i1 i2 i3
  subst i1; subst i2; subst i3
  refine ⟨h1, e4, ⟨e5, by omega⟩, (fun e => by cases e), fun p hp => ?_⟩
  cases hp
  refine ⟨fun _ => rfl, fun k hk => ⟨trivial, ?_⟩⟩
  obtain ⟨a', n', c', q1, q2⟩ := h3 k (by omega) hk
  refine ⟨a', n', c', ?_, q2.more fun _ _ => trivial⟩
  rw [← q1]
  have hq := congrArg (fun l => l[k]?) e7
  simp only [List.getElem?_take, Nat.mul_one] at hq
  rw [if_pos (by omega), List.getElem?_eq_getElem (by omega : k < H.length)] at hq
  unfold World.cell?
  simp only [e3, Nat.zero_add]
  simpa [Array.getElem?_toList] using hq

/-! ### Rows -/
theorem pickB_ok {b : By} (h : (pickB b).2.2 = 0) : 5 ≤ (pickB b).2.1 ∧ (pickB b).2.1 ≤ b.length := by
  cases b with
  | nil => cases h
  | cons x r =>
    unfold pickB at h ⊢
    dsimp only at h ⊢
    split at h
    · cases h
    rename_i h1
    rw [if_neg h1]
    split at h
    · rename_i h2; exact absurd h h2
    rename_i h2
    rw [if_neg h2]
    split at h
    · cases h
    rename_i h3
    rw [if_neg h3]
    split at h
    · cases h
    rename_i h4
    rw [if_neg h4]
    split at h
    · cases h
    rename_i h5
    rw [if_neg h5]
    dsimp only
    omega
theorem rowsG_fuel : ∀ (f g : Nat) (b : By), b.length < f → b.length < g → rowsG f b = rowsG g b := by
  intro f
  induction f with
  | zero => intro g b h; omega
  | succ f ih =>
    intro g b h1 h2
    cases g with
    | zero => omega
    | succ g =>
      show (if _ then _ else _) = (if _ then _ else _)
      by_cases hp : (pickB b).2.2 ≠ 0
      · rw [if_pos hp, if_pos hp]
      rw [if_neg hp, if_neg hp]
      have := pickB_ok (b := b) (by simpa using hp)
      rw [ih g (b.drop (pickB b).2.1) (by simp; omega) (by simp; omega)]
theorem rowsB_eq (b : By) : rowsB b = if (pickB b).2.2 ≠ 0 then ([], 0) else ((pickB b).1 :: (rowsB (b.drop (pickB b).2.1)).1, (pickB b).2.1 + (rowsB (b.drop (pickB b).2.1)).2) := by
  by_cases hp : (pickB b).2.2 ≠ 0
  · rw [if_pos hp]
    show (if _ then _ else _) = _
    rw [if_pos hp]
  rw [if_neg hp]
  show (if _ then _ else _) = _
  rw [if_neg hp]
  have := pickB_ok (b := b) (by simpa using hp)
  unfold rowsB
  rw [rowsG_fuel b.length ((b.drop (pickB b).2.1).length + 1) _ (by simp; omega) (by omega)]

end Go.Proofs.YtikjckdoldiddaaGreatDoor

/- More of numbers and records; a list of bytes without its first. -/
namespace Go.Proofs.YtikjckdoldiddaaGreatDoor
open Go.RowKit Go.Maps
set_option linter.unusedVariables false
set_option linter.unusedSimpArgs false

theorem rdB_bound : ∀ (b : By) (i acc : Nat), acc < 128 ^ i → i ≤ 9 → (rdB i acc b).1 < 9223372036854775808 ∧ ((rdB i acc b).2.2 = 0 → i + 1 ≤ (rdB i acc b).2.1 ∧ (rdB i acc b).2.1 ≤ i + b.length) := by
  intro b
  induction b with
  | nil => intro i acc _ _; exact ⟨by simp [rdB], fun h => by simp [rdB] at h⟩
  | cons x r ih =>
    intro i acc hacc hi
    by_cases h1 : i = 0 ∧ x = 128
    · have e : rdB i acc (x :: r) = (0, 0, 10) := by show (if _ then _ else _) = _; rw [if_pos h1]
      rw [e]; exact ⟨by simp, fun h => by cases h⟩
    by_cases h2 : i = 9
    · have e : rdB i acc (x :: r) = (0, 0, 5) := by show (if _ then _ else if _ then _ else _) = _; rw [if_neg h1, if_pos h2]
      rw [e]; exact ⟨by simp, fun h => by cases h⟩
    rw [rdB_step h1 h2]
    have hpow : acc * 128 + x.toNat % 128 < 128 ^ (i + 1) := by
      rw [Nat.pow_succ]
      have : acc + 1 ≤ 128 ^ i := hacc
      have := Nat.mul_le_mul_right 128 this
      omega
    have h63 : (128 : Nat) ^ (i + 1) ≤ 128 ^ 9 := Nat.pow_le_pow_right (by omega) (by omega)
    have e63 : (128 : Nat) ^ 9 = 9223372036854775808 := by decide
    by_cases h3 : x < 128
    · rw [if_pos h3]
      exact ⟨by show acc * 128 + x.toNat % 128 < _; omega, fun _ => ⟨Nat.le_refl _, by show i + 1 ≤ i + (x :: r).length; simp⟩⟩
    rw [if_neg h3]
    obtain ⟨q1, q2⟩ := ih (i + 1) _ hpow (by omega)
    refine ⟨q1, fun h => ?_⟩
    have := q2 h
    simp only [List.length_cons]
    omega
theorem readB_bound (b : By) : (readB b).1 < 9223372036854775808 ∧ ((readB b).2.2 = 0 → 1 ≤ (readB b).2.1 ∧ (readB b).2.1 ≤ b.length) := by
  obtain ⟨h1, h2⟩ := rdB_bound b 0 0 (by simp) (by omega)
  exact ⟨h1, fun h => by have := h2 h; unfold readB; omega⟩
/-- Each number is one of int's kind; the scan goes on, or stops. -/
theorem Sc.num_bound (s : Sc) (h : s.at_ ≤ s.b.length) : s.num.1 < 9223372036854775808 ∧ s.num.2.b = s.b ∧ s.num.2.at_ ≤ s.b.length ∧ s.at_ ≤ s.num.2.at_ ∧ (s.num.2.err = 0 → s.err = 0 ∧ s.at_ + 1 ≤ s.num.2.at_) := by
  unfold Sc.num
  by_cases he : s.err ≠ 0
  · rw [if_pos he]
    exact ⟨by simp, rfl, h, Nat.le_refl _, fun h => absurd h he⟩
  rw [if_neg he]
  obtain ⟨q1, q2⟩ := readB_bound (s.b.drop s.at_)
  unfold Sc.numV
  by_cases hz : (readB (s.b.drop s.at_)).2.2 ≠ 0
  · rw [if_pos hz]
    exact ⟨by simp, rfl, h, Nat.le_refl _, fun h => absurd h hz⟩
  rw [if_neg hz]
  have := q2 (by simpa using hz)
  rw [List.length_drop] at this
  exact ⟨q1, rfl, by show s.at_ + _ ≤ _; omega, by show s.at_ ≤ s.at_ + _; omega, fun _ => ⟨by simpa using he, by show s.at_ + 1 ≤ s.at_ + _; omega⟩⟩
/-- A number that stands there. -/
theorem Sc.num_at {s : Sc} {x : Int} {r : By} (he : s.err = 0) (h : s.b.drop s.at_ = numS x ++ r) (h0 : 0 ≤ x) (h1 : x < 9223372036854775808) :
    (s.num.1 : Int) = x ∧ s.num.2.err = 0 ∧ s.num.2.b = s.b ∧ s.num.2.b.drop s.num.2.at_ = r := by
  obtain ⟨N, rfl⟩ : ∃ N : Nat, x = N := ⟨x.toNat, by omega⟩
  have e : numS (N : Int) = numB N := by unfold numS; congr 1; omega
  rw [e] at h
  have hr := readB_num (n := N) (by omega) r
  rw [← h] at hr
  unfold Sc.num
  rw [if_neg (by simp [he])]
  unfold Sc.numV
  rw [hr, if_neg (by simp)]
  refine ⟨rfl, he, rfl, ?_⟩
  show s.b.drop (s.at_ + (numB N).length) = r
  rw [← List.drop_drop, h, List.drop_left]
theorem pickB_len {b : By} (h : (pickB b).2.2 = 0) : (pickB b).1.length + 5 ≤ (pickB b).2.1 ∧ (pickB b).1.length ≤ 65536 := by
  cases b with
  | nil => cases h
  | cons x r =>
    unfold pickB at h ⊢
    dsimp only at h ⊢
    split at h
    · cases h
    rename_i h1
    rw [if_neg h1]
    split at h
    · rename_i h2; exact absurd h h2
    rename_i h2
    rw [if_neg h2]
    split at h
    · cases h
    rename_i h3
    rw [if_neg h3]
    split at h
    · cases h
    rename_i h4
    rw [if_neg h4]
    split at h
    · cases h
    rename_i h5
    rw [if_neg h5]
    dsimp only
    rw [List.length_take]
    omega
theorem rowsB_bound : ∀ (m : Nat) (b : By), b.length ≤ m → (rowsB b).1.length ≤ (rowsB b).2 ∧ (rowsB b).2 ≤ b.length ∧ (∀ p ∈ (rowsB b).1, p.length ≤ 65536) ∧ (rowsB b).1.flatten.length ≤ b.length := by
  intro m
  induction m with
  | zero =>
    intro b hb
    have : b = [] := List.eq_nil_of_length_eq_zero (by omega)
    subst this
    have e : rowsB [] = ([], 0) := rfl
    rw [e]
    exact ⟨Nat.le_refl _, Nat.le_refl _, (fun p hp => by cases hp), Nat.le_refl _⟩
  | succ m ih =>
    intro b hb
    rw [rowsB_eq]
    by_cases hp : (pickB b).2.2 ≠ 0
    · rw [if_pos hp]
      exact ⟨Nat.le_refl _, Nat.zero_le _, (fun p hp => by cases hp), Nat.zero_le _⟩
    rw [if_neg hp]
    have h0 : (pickB b).2.2 = 0 := by simpa using hp
    obtain ⟨o1, o2⟩ := pickB_ok h0
    obtain ⟨o3, o4⟩ := pickB_len h0
    obtain ⟨i1, i2, i3, i4⟩ := ih (b.drop (pickB b).2.1) (by rw [List.length_drop]; omega)
    rw [List.length_drop] at i2 i4
    refine ⟨by simp only [List.length_cons]; omega, by dsimp only; omega, fun p hp2 => ?_, by simp only [List.flatten_cons, List.length_append]; omega⟩
    rcases List.mem_cons.1 hp2 with rfl | hp2
    · exact o4
    exact i3 p hp2

theorem elem_sl (W : World) : (sizeOf (Tryz.prog.elem 23)).run Tryz.prog W = .ok 1 W := by kernel_rfl
theorem under_sl : Tryz.prog.underlying 23 = some (.slice (Tryz.prog.elem 23)) := by kernel_rfl
theorem bs_tail {F : Nat → Prop} {w : World} {a : Option Addr} {n c : Nat} {hd : By} {tl : List By} (h : BsF F w a n c (hd :: tl)) :
    ∃ a' m k, (∀ W, (Instr.slice 23 (.slice a n c) (some (.int .i64 1)) none none).run Tryz.prog W = .ok (.slice a' m k) W) ∧
      (∀ W, (Instr.sliceAt 23 (.slice a n c) (some (.int .i64 1)) none none).run Tryz.prog W = .ok (.slice a' m k) W) ∧ BsF F w a' m k tl := by
  obtain ⟨h1, h2, h3, h4, h5⟩ := h
  have hn : n = tl.length + 1 := h1
  have hr : ∀ W, (Instr.slice 23 (.slice a n c) (some (.int .i64 1)) none none).run Tryz.prog W = .ok (sliced a 1 n c 1) W := fun W => by
    rw [run_slice_l W 23 a n c under_sl .i64 1 (by omega) (by omega), elem_sl]
    rfl
  refine ⟨_, _, _, hr, fun W => (run_sliceAt_slice W _ _ _ _ _ under_sl).trans (hr W), ?_⟩
  refine ⟨by omega, by omega, ⟨by omega, by omega⟩, fun e => ?_, fun p hp => ?_⟩
  · split at e
    · omega
    cases a with
    | none => have := h4 rfl; omega
    | some p => cases e
  split at hp
  · rename_i e
    refine ⟨fun hc => by omega, fun k hk => by omega⟩
  cases a with
  | none => cases hp
  | some q =>
    obtain ⟨h6, h7⟩ := h5 q rfl
    obtain ⟨qb, qo, qs⟩ := q
    obtain rfl : qs = none := h6 (by omega)
    cases hp
    refine ⟨fun hc => rfl, fun k hk => ?_⟩
    obtain ⟨f, a', n', c', e1, e2⟩ := h7 (k + 1) (by simp; omega)
    refine ⟨f, a', n', c', ?_, e2⟩
    rw [← e1]
    show w.cell? ⟨qb, qo + 1 * 1 + k, none⟩ = w.cell? ⟨qb, qo + (k + 1), none⟩
    rw [show qo + 1 * 1 + k = qo + (k + 1) by omega]
end Go.Proofs.YtikjckdoldiddaaGreatDoor
