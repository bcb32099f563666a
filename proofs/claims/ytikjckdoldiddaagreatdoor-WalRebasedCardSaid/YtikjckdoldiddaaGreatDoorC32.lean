/- The walk of the law's awake. -/
import Derived.Test.YtikjckdoldiddaaGreatDoorC31
import Derived.Lib.SlBytesConst
namespace Go.Proofs.YtikjckdoldiddaaGreatDoor
open Go.RowKit Go.Maps
set_option linter.unusedVariables false
set_option linter.unusedSimpArgs false
attribute [local go_sem] bmax2 bmin2 bmax_two bmin_two

theorem es_lit {F : Nat → Prop} {w : World} (H : List EH) (l : List Ent) (hl : H.length = l.length) (hm : l.length ≤ 1000) (hH : ∀ k (h1 : k < H.length) (h2 : k < l.length), H[k].i = l[k].i ∧ H[k].t = l[k].t ∧ ByF F w H[k].a H[k].n H[k].c l[k].d) (h64 : ∀ k, (h : k < l.length) → In64 l[k].i ∧ In64 l[k].t) :
    EsF (fun _ => True) (w.alloc (.cells (rawH H).toArray 46)) (some ⟨w.heap.size, 0, none⟩) l.length l.length l := by
  have hlen : (rawH H).length = H.length * 3 := by
    clear hl hm hH h64
    unfold rawH
    induction H with
    | nil => rfl
    | cons x r ih => rw [List.flatMap_cons, List.length_append, ih, List.length_cons]; show 3 + _ = _; omega
  have hown : (w.alloc (.cells (rawH H).toArray 46)).ownsRow w.heap.size 46 3 (.slice (some ⟨w.heap.size, 0, none⟩) H.length H.length) H.length (rawH H) :=
    ⟨hlen, .inr ⟨w.heap.size, H.length, (rawH H).toArray, rfl, Nat.le_refl _, heap_alloc_new w _, Nat.le_refl _, by unfold maxLen; omega, by simp [hlen], by rw [← hlen]; simp⟩⟩
  obtain ⟨a, c, e, he⟩ := es_back (F := F) hown hl (fun k k1 k2 => ⟨(hH k k1 k2).1, (hH k k1 k2).2.1, (hH k k1 k2).2.2.below (ext_alloc w _)⟩) h64 (by omega)
  injection e with e1 e2 e3
  rw [e1]
  rw [← e3, hl] at he
  exact he.more fun _ _ => trivial
theorem LoPost.ext {A : Nat → Prop} {g dg : Nat} {r : Int × Lo} {w0 w w' : World} {e : Ending} (hx : Ext w0 w) (hA : ∀ q, A q → w0.heap.size ≤ q) (h : LoPost A g dg r w e w') : Ext w0 w' ∧ LoAt (Go.Proofs.YtikjckdoldiddaaGreatDoor.grow A w w') w' g dg r.2 ∧ (∀ q, Go.Proofs.YtikjckdoldiddaaGreatDoor.grow A w w' q → w0.heap.size ≤ q) := by
  refine ⟨ext_frm hx h.2.2 hA, h.2.1, fun q hq => ?_⟩
  rcases hq with hq | hq
  · exact hA q hq
  have := hx.size; omega
theorem pow_fresh {w : World} (hT : TabP w) {A : Nat → Prop} (hA : ∀ q, A q → w.heap.size ≤ q) : ¬ A powG := fun h => by have := hA _ h; have := hT.lt; omega
theorem aw_one (w : World) : EsF (fun _ => True) (w.alloc (.cells #[.int .i64 3, .int .i64 1, .slice none 0 0] 46)) (some ⟨w.heap.size, 0, none⟩) 1 1 aw3 :=
  es_lit (F := fun _ => False) [⟨3, 1, none, 0, 0⟩] aw3 rfl (by decide) (fun k h1 h2 => by
    obtain rfl : k = 0 := by simpa using h1
    exact ⟨rfl, rfl, ByF.nil_ _ _⟩) (fun k h => by
    obtain rfl : k = 0 := by simpa [aw3] using h
    exact (show In64 3 ∧ In64 1 from ⟨⟨by decide, by decide⟩, ⟨by decide, by decide⟩⟩))
theorem aw_two (w : World) : EsF (fun _ => True) (w.alloc (.cells #[.int .i64 2, .int .i64 2, .slice none 0 0] 46)) (some ⟨w.heap.size, 0, none⟩) 1 1 aw2 :=
  es_lit (F := fun _ => False) [⟨2, 2, none, 0, 0⟩] aw2 rfl (by decide) (fun k h1 h2 => by
    obtain rfl : k = 0 := by simpa using h1
    exact ⟨rfl, rfl, ByF.nil_ _ _⟩) (fun k h => by
    obtain rfl : k = 0 := by simpa [aw2] using h
    exact (show In64 2 ∧ In64 2 from ⟨⟨by decide, by decide⟩, ⟨by decide, by decide⟩⟩))
theorem aw_pair {F : Nat → Prop} {w : World} {b : Nat} (hb : ByF F w (some ⟨b, 0, none⟩) 1 1 [97]) : EsF (fun _ => True) (w.alloc (.cells #[.int .i64 1, .int .i64 1, .slice (some ⟨b, 0, none⟩) 1 1, .int .i64 2, .int .i64 1, .slice none 0 0] 46)) (some ⟨w.heap.size, 0, none⟩) 2 2 aw1 :=
  es_lit (F := F) [⟨1, 1, some ⟨b, 0, none⟩, 1, 1⟩, ⟨2, 1, none, 0, 0⟩] aw1 rfl (by decide) (fun k h1 h2 => by
    match k, h1, h2 with
    | 0, _, _ => exact ⟨rfl, rfl, hb⟩
    | 1, _, _ => exact ⟨rfl, rfl, ByF.nil_ _ _⟩
    | k + 2, h1, _ => exact absurd h1 (by simp)) (fun k h => by
    match k, h with
    | 0, _ => exact (show In64 1 ∧ In64 1 from ⟨⟨by decide, by decide⟩, ⟨by decide, by decide⟩⟩)
    | 1, _ => exact (show In64 2 ∧ In64 1 from ⟨⟨by decide, by decide⟩, ⟨by decide, by decide⟩⟩)
    | k + 2, h => exact absurd h (by simp [aw1]))
theorem by_oneM (w : World) : ByF (fun _ => True) (w.alloc (.cells #[.int .u8 97] 5 (1, 2))) (some ⟨w.heap.size, 0, none⟩) 1 1 [97] := by
  exact (by_block (S := [97]) (heap_alloc_new w _) rfl (Nat.le_refl _) (by unfold maxLen; simp)).more fun _ _ => trivial
set_option maxRecDepth 100000 in
set_option maxHeartbeats 8000000 in
theorem awake_any {w : World} (hT : TabP w) : Calls Tryz.prog 13 #[] w (fun e w' => e = .returned (.bool true) ∧ Ext w w') := by
  obtain ⟨r1, r2, r3, r4, r5, fA, fB, fC, fD, fE, hoff, fin⟩ := aw_all
  have HOFF := hid hoff
  have f0 := lo0_fit (room := 1000) (by decide) (by decide)
  have HBG := hid (begun_any hT (room := 1000) (by decide) (by decide))
  have HT := hid hT
  have HR := hid (And.intro r1 (And.intro r2 (And.intro r3 (And.intro r4 r5))))
  have HF := hid (And.intro fA (And.intro fB (And.intro fC (And.intro fD (And.intro fE f0)))))
  have HFIN := hid fin
  clear hT r1 r2 r3 r4 r5 fA fB fC fD fE f0 fin hoff
  go_enter Tryz.func13, Tryz.ntmps13
  go_wp2_with fail
  refine Calls.mono HBG.out ?_
  rintro e w1 ⟨dg, g, A1, rfl, hl1, hA1, hx1⟩
  have hx2 := (ext_alloc w1 (.cells #[.int .u8 97] 5 (1, 2))).trans' (ext_alloc (w1.alloc (.cells #[.int .u8 97] 5 (1, 2))) (.cells #[.int .i64 1, .int .i64 1, .slice (some ⟨w1.heap.size, 0, none⟩) 1 1, .int .i64 2, .int .i64 1, .slice none 0 0] 46))
  have hes := aw_pair (by_oneM w1)
  rw [World.size_alloc] at hes
  have HA := hid (LApp_any (hl1.below hx2) HF.out.2.2.2.2.2 (by decide) (by decide) hes (by decide) (HT.out.ext (hx1.trans' hx2)))
  have HX2 := hid (hx1.trans' hx2)
  have HA1 := hid hA1
  have hcv0 := Lib.run_convert_bytes_const (P := Tryz.prog) w1 37 5 #[.int .u8 97] 1 1 Tryz.underlying37 Tryz.underlying5
  clear hl1 hA1 hx1 hx2 hes HBG
  go_wp2_with fail
  generalize (w1.alloc (.cells #[.int .u8 97] 5 (1, 2))).alloc (.cells #[.int .i64 1, .int .i64 1, .slice (some ⟨w1.heap.size, 0, none⟩) 1 1, .int .i64 2, .int .i64 1, .slice none 0 0] 46) = w2 at *
  refine Calls.mono HA.out ?_
  rintro e w3 hp
  obtain ⟨hx3, hl3, hA3⟩ := LoPost.ext HX2.out HA1.out hp
  have he := hp.1
  rw [HR.out.1] at he
  subst he
  have HX3 := hid hx3
  have HA3 := hid hA3
  have HCT := hid (LCut_any hl3 HF.out.1 (by decide) (by decide) 2 ⟨by decide, by decide⟩ (HT.out.ext hx3))
  clear hp hx3 hl3 hA3 HA HA1 HX2
  go_wp2_with fail
  refine Calls.mono HCT.out ?_
  rintro e w4 hp
  obtain ⟨hx4, hl4, hA4⟩ := LoPost.ext HX3.out HA3.out hp
  have he := hp.1
  rw [show (((lo0 1000).app aw1).2.cut 2).1 = 0 from HR.out.2.1] at he
  subst he
  have HX4 := hid hx4
  have HA4 := hid hA4
  have HPU := hid (LPut_any hl4 HF.out.2.1.ok (by have := HF.out.2.1.acts; show awB.d.acts.length ≤ _; omega) (by have := HF.out.2.1.tt; show awB.s.tt < _; omega) (by have := HF.out.2.1.sz; show awB.s.sz ≤ _; omega) (HT.out.ext hx4) (pow_fresh HT.out hA4) 2 1 ⟨by decide, by decide⟩ ⟨by decide, by decide⟩)
  clear hp hx4 hl4 hA4 HCT HA3 HX3
  go_wp2_with fail
  refine Calls.mono HPU.out ?_
  rintro e w5 hp
  obtain ⟨hx5, hl5, hA5⟩ := LoPost.ext HX4.out HA4.out hp
  have he := hp.1
  rw [show ((((lo0 1000).app aw1).2.cut 2).2.hard 2 1).1 = 0 from HR.out.2.2.1] at he
  subst he
  have HX5 := hid hx5
  have HA5 := hid hA5
  have HSY := hid (LSync_any hl5 HF.out.2.2.1.ok (by have := HF.out.2.2.1.acts; show awC.d.acts.length ≤ _; omega))
  clear hp hx5 hl5 hA5 HPU HA4 HX4
  go_wp2_with fail
  refine Calls.mono HSY.out ?_
  rintro e w6 hp
  obtain ⟨hx6, hl6, hA6⟩ := LoPost.ext HX5.out HA5.out hp
  have he := hp.1
  rw [show (((((lo0 1000).app aw1).2.cut 2).2.hard 2 1).2.sync).1 = 0 from HR.out.2.2.2.1] at he
  subst he
  have hl6 : LoAt _ w6 g dg awD := hl6
  have HX6 := hid hx6
  have HA6 := hid hA6
  have hxa := ext_alloc w6 (.cells #[.int .i64 3, .int .i64 1, .slice none 0 0] 46)
  have HAP := hid (LApp_any (hl6.below hxa) HF.out.2.2.2.1 (by decide) (by decide) (aw_one w6) (by decide) (HT.out.ext (hx6.trans' hxa)))
  have HXA := hid (hx6.trans' hxa)
  clear hp hx6 hl6 hA6 hxa HSY HA5 HX5
  go_wp2_with fail
  generalize w6.alloc (.cells #[.int .i64 3, .int .i64 1, .slice none 0 0] 46) = w7 at *
  refine Calls.mono HAP.out ?_
  rintro e w8 hp
  rw [HR.out.2.2.2.2] at hp
  obtain ⟨hx8, hl8, hA8⟩ := LoPost.ext HXA.out HA6.out hp
  have he := hp.1
  subst he
  have hl8 : LoAt _ w8 g dg awD := hl8
  have HX8 := hid hx8
  have HA8 := hid hA8
  have hxa := ext_alloc w8 (.cells #[.int .i64 2, .int .i64 2, .slice none 0 0] 46)
  have HAQ := hid (LApp_any (hl8.below hxa) HF.out.2.2.2.1 (by decide) (by decide) (aw_two w8) (by decide) (HT.out.ext (hx8.trans' hxa)))
  have HXB := hid (hx8.trans' hxa)
  clear hp hx8 hl8 hA8 hxa HAP HA6 HX6 HXA
  go_wp2_with fail
  generalize w8.alloc (.cells #[.int .i64 2, .int .i64 2, .slice none 0 0] 46) = w9 at *
  refine Calls.mono HAQ.out ?_
  rintro e w10 hp
  obtain ⟨hx10, hl10, hA10⟩ := LoPost.ext HXB.out HA8.out hp
  obtain ⟨z10, hz10⟩ : ∃ z : Int, e = .returned (.int .i64 z) := ⟨_, hp.1⟩
  subst hz10
  have hl10 : LoAt _ w10 g dg awE := hl10
  obtain ⟨D, G, hd, -, hD, -, -, -⟩ := hl10.parts
  have hD0 : ∀ q, D q → w.heap.size ≤ q := fun q hq => hA10 q (hD q hq).1
  have HX10 := hid hx10
  have HD0 := hid hD0
  have hcr := Crash_at hd HF.out.2.2.2.2.1.ok (by have := HF.out.2.2.2.2.1.acts; show awE.d.acts.length < _; omega) 0 0 ⟨by decide, by decide⟩ ⟨by decide, by decide⟩
  have HCR := hid hcr
  clear hp hx10 hl10 hA10 hd hD hD0 hcr HAQ HA8 HX8 HXB
  go_wp2_with fail
  refine Calls.mono HCR.out ?_
  rintro e w11 hp
  obtain ⟨hx11, hd11, hD11⟩ := DoPost.ext HX10.out HD0.out hp
  obtain ⟨z11, hz11⟩ : ∃ z : Int, e = .returned (.int .i64 z) := ⟨_, hp.1⟩
  subst hz11
  have HX11 := hid hx11
  have HD11 := hid hD11
  have HST := hid (Start_at hd11)
  clear hp hx11 hd11 hD11 HCR HD0 HX10
  go_wp2_with fail
  refine Calls.mono HST.out ?_
  rintro e w12 hp
  obtain ⟨hx12, hd12, hD12⟩ := DoPost.ext HX11.out HD11.out hp
  obtain ⟨z12, hz12⟩ : ∃ z : Int, e = .returned (.int .i64 z) := ⟨_, hp.1⟩
  subst hz12
  have hoff := HOFF.out
  have ecr : (awE.d.crash 0 0).2 = awE.d.fall 0 0 := by unfold DS.crash; rw [if_neg (by rw [hoff]; simp)]
  rw [ecr] at hd12
  have hd12 : DiskAt _ w12 dg ((awE.d.fall 0 0).start) := hd12
  have hok12 := (HF.out.2.2.2.2.1.ok.fall 0 0).start2
  have hon : ((awE.d.fall 0 0).start).On (isWk 4) := HF.out.2.2.2.2.1.on.fall 0 0
  obtain ⟨l, hs⟩ := segs_of hok12 ((hon.wok (by decide)).wal hok12)
  obtain ⟨s, d2, o1, o2, o3⟩ := HFIN.out l hs
  have hop := OpenW_any hd12 hok12 hs (by show 0 ≤ _; decide) (HT.out.ext hx12) (pow_fresh HT.out hD12)
  rw [o1, o2] at hop
  have HOP := hid hop
  have HX12 := hid hx12
  have HD12 := hid hD12
  have HSV := hid o3
  clear hp hx12 hd12 hD12 hoff ecr hok12 hon hs o1 o2 o3 hop HST HD11 HX11
  go_wp2_with fail
  refine Calls.mono HOP.out ?_
  rintro e w13 hp
  rcases hp with ⟨h, -⟩ | ⟨-, g2, rfl, hl13, hf13, -⟩
  · exact absurd rfl h
  have hx13 : Ext w w13 := ext_frm HX12.out hf13 HD12.out
  have HX13 := hid hx13
  have hen := LEntries_any hl13
  have hhd := fun W (hW : Ext w13 W) => LHard_any (hl13.below hW)
  have esv : (Lo.mk s d2).s.v = awV := HSV.out
  rw [esv] at hen hhd
  have HEN := hid hen
  have HHD := hid hhd
  clear hl13 hf13 hx13 hen hhd esv HOP HD12 HX12
  go_wp2_with fail
  refine Calls.mono HEN.out ?_
  rintro e w14 ⟨r, rfl, ho, hx14⟩
  obtain ⟨a, c, hr, hes⟩ := ho.es
  subst hr
  have hes : EsF (fun b => w13.heap.size ≤ b) w14 a 1 c [⟨1, 1, [97]⟩] := hes
  obtain ⟨b, o, rfl, -, -, hk0, -, -, -, -, xa, xn, xc, hc2, hd0⟩ := hes.at_ (k := 0) (by decide)
  have hcv := conv_str hd0
  have hc2 : w14.cell? ⟨b, o + 2, none⟩ = some (.slice xa xn xc) := by simpa using hc2
  have HHD2 := hid (HHD.out w14 hx14)
  have HX14 := hid (HX13.out.trans' hx14)
  have hle : (List.length awV.l : Nat) = 1 := rfl
  rw [hle]
  clear ho hx14 hes hd0 hle HHD HEN HX13
  go_wp2_with fail
  refine Calls.mono HHD2.out ?_
  rintro e w15 ⟨rfl, hx15⟩
  have HX15 := hid (HX14.out.trans' hx15)
  clear hx15
  go_wp2
  go_ret
  exact ⟨rfl, HX15.out⟩
end Go.Proofs.YtikjckdoldiddaaGreatDoor
