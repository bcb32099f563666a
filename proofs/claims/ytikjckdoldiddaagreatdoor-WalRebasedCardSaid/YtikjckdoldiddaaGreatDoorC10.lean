/- The walks of entryRecords and whole. Printed by gen_wt6.py. -/
import Derived.Test.YtikjckdoldiddaaGreatDoorC09
namespace Go.Proofs.YtikjckdoldiddaaGreatDoor
open Go.RowKit Go.Maps
set_option linter.unusedVariables false
set_option linter.unusedSimpArgs false
attribute [local go_sem] bmax2 bmin2 bmax_two bmin_two

theorem record_ent {F : Nat → Prop} {W : World} {x : Ent} {ea : Option Addr} {en ec : Nat} (hd : ByF F W ea en ec x.d) (hi : In64 x.i) (ht : In64 x.t) (h4 : x.d.length ≤ 4096) (t : TypeId) :
    Calls Tryz.prog 73 #[.slice ea en ec, .bool true, .slice (some ⟨W.heap.size, 0, none⟩) 3 3] (W.alloc (.cells #[.int .i64 2, .int .i64 x.i, .int .i64 x.t] t)) (BytesPost (entB x) (W.alloc (.cells #[.int .i64 2, .int .i64 x.i, .int .i64 x.t] t))) := by
  have h := record_any (d := x.d) (more := true) (l := [2, x.i, x.t]) (hd.below (ext_alloc W (.cells ([2, x.i, x.t].map (Value.int .i64)).toArray t))) (isF_lit [2, x.i, x.t] t (by intro y hy; simp at hy; rcases hy with rfl | rfl | rfl; exact ⟨by decide, by decide⟩; exact hi; exact ht) (by simp)) (by simp) (by omega)
  unfold entB
  generalize recB (payB [2, x.i, x.t] true x.d) = R at *
  simp only [List.map_cons, List.map_nil, List.length_cons, List.length_nil, Nat.zero_add, Nat.reduceAdd] at h
  exact h
theorem join_two {F G : Nat → Prop} {W : World} {a1 a2 : Option Addr} {n1 c1 n2 c2 : Nat} {d1 d2 d : By} (h1 : ByF F W a1 n1 c1 d1) (h2 : ByF G W a2 n2 c2 d2) (hd : d = d1 ++ d2) (hl : d.length ≤ 1099511627776) (t : TypeId) :
    Calls Tryz.prog 117 #[.slice (some ⟨W.heap.size, 0, none⟩) 2 2] (W.alloc (.cells #[.slice a1 n1 c1, .slice a2 n2 c2] t)) (BytesPost d (W.alloc (.cells #[.slice a1 n1 c1, .slice a2 n2 c2] t))) := by
  have hf : [d1, d2].flatten = d := by rw [hd]; simp
  have h := Join_any (bs_two (h1.more (G := fun _ => True) fun _ _ => trivial) (h2.more (G := fun _ => True) fun _ _ => trivial) t) (by rw [hf]; exact hl)
  rw [hf] at h
  exact h
theorem join_four {F1 F2 F3 F4 : Nat → Prop} {W : World} {a1 a2 a3 a4 : Option Addr} {n1 c1 n2 c2 n3 c3 n4 c4 : Nat} {d1 d2 d3 d4 d : By} (h1 : ByF F1 W a1 n1 c1 d1) (h2 : ByF F2 W a2 n2 c2 d2) (h3 : ByF F3 W a3 n3 c3 d3) (h4 : ByF F4 W a4 n4 c4 d4) (hd : d = d1 ++ (d2 ++ (d3 ++ d4))) (hl : d.length ≤ 1099511627776) (t : TypeId) :
    Calls Tryz.prog 117 #[.slice (some ⟨W.heap.size, 0, none⟩) 4 4] (W.alloc (.cells #[.slice a1 n1 c1, .slice a2 n2 c2, .slice a3 n3 c3, .slice a4 n4 c4] t)) (BytesPost d (W.alloc (.cells #[.slice a1 n1 c1, .slice a2 n2 c2, .slice a3 n3 c3, .slice a4 n4 c4] t))) := by
  have hf : [d1, d2, d3, d4].flatten = d := by rw [hd]; simp
  have hb := bs_lit (F := fun _ => True) (w := W) [(a1, n1, c1), (a2, n2, c2), (a3, n3, c3), (a4, n4, c4)] [d1, d2, d3, d4] rfl (by simp) (fun k q1 q2 => by
    match k, q1, q2 with
    | 0, _, _ => exact h1.more fun _ _ => trivial
    | 1, _, _ => exact h2.more fun _ _ => trivial
    | 2, _, _ => exact h3.more fun _ _ => trivial
    | 3, _, _ => exact h4.more fun _ _ => trivial
    | m + 4, q1, _ => exact absurd q1 (by simp)) t
  have h := Join_any hb (by rw [hf]; exact hl)
  rw [hf] at h
  exact h
set_option maxRecDepth 100000 in
set_option maxHeartbeats 4000000 in
theorem entR_any {F : Nat → Prop} {w : World} {a : Option Addr} {n c : Nat} {l : List Ent} (h : EsF F w a n c l) (hl : l.length ≤ 100000000) (h4 : ∀ x ∈ l, x.d.length ≤ 4096) :
    Calls Tryz.prog 67 #[.slice a n c] w (fun e w' => ∃ b m k, e = .returned (.slice b m k) ∧ ByF (fun q => w.heap.size ≤ q ∧ q < w'.heap.size) w' b m k (entsB l) ∧ Ext w w') := by
  have HE := hid h
  have hn := h.1
  have HN := hid hn
  have HL := hid hl
  have H4 := hid h4
  have hn63 : n ≤ 100000000 := by omega
  clear h hn hl h4
  go_enter Tryz.func67, Tryz.ntmps67
  go_wp2
  go_loopw [3, 8] (fun b z W => ∃ (k : Nat) (ba : Option Addr) (bn bc : Nat), k ≤ n ∧ z = .int .i64 (k : Int) ∧ b = .slice ba bn bc ∧ Hid (ByF (fun q => w.heap.size ≤ q ∧ q < W.heap.size) W ba bn bc (entsB (l.take k))) ∧ Hid (Ext w W)) (fun _ z _ => n - (intOf z).toNat)
  case atStart => exact ⟨0, none, 0, 0, Nat.zero_le _, rfl, rfl, ByF.nil_ _ _, Below.refl _ _⟩
  obtain ⟨k, ba, bn, bc, hk, rfl, rfl, HB, HX⟩ := hrel
  by_cases hlt : k < n
  · obtain ⟨b, ob, rfl, -, hbl, hkl, q64a, q64b, q0, q1, ea, en, ec, q2, q3⟩ := (HE.out.below HX.out).at_ hlt
    have hki : (0 : Int) ≤ (k : Int) := by omega
    have hki2 : (k : Int) < (n : Int) := by omega
    have htk := entsB_take l hkl
    have hx4 := H4.out _ (List.getElem_mem hkl)
    have htl : (entsB (l.take (k + 1))).length ≤ 1099511627776 := by
      have h1 := entsB_le (l.take (k + 1)) (fun y hy => H4.out y (List.mem_of_mem_take hy))
      have h2 : (l.take (k + 1)).length ≤ l.length := by rw [List.length_take]; omega
      have h3 := HL.out
      omega
    obtain ⟨x, hx⟩ : ∃ x, x = l[k] := ⟨_, rfl⟩
    rw [← hx] at q64a q64b q0 q1 q3 htk hx4
    have hRE := fun W (hW : Ext wr W) => record_ent (W := W) (q3.below hW) q64a q64b hx4 3
    have hel : (entB x).length ≤ 140737488351232 := by have := entB_le hx4; omega
    obtain ⟨EB, hEB⟩ : ∃ EB, EB = entB x := ⟨_, rfl⟩
    obtain ⟨D1, hD1⟩ : ∃ D1, D1 = entsB (l.take k) := ⟨_, rfl⟩
    obtain ⟨D2, hD2⟩ : ∃ D2, D2 = entsB (l.take (k + 1)) := ⟨_, rfl⟩
    rw [← hEB] at hRE htk hel
    rw [← hD1] at htk HB
    rw [← hD2] at htk htl
    obtain ⟨xi, xt, xd⟩ := x
    dsimp only at q0 q1 hRE
    have HRE := hid hRE
    have HTK := hid htk
    have HTL := hid htl
    have HEL := hid hel
    have HD2 := hid hD2
    have hx1 := ext_alloc wr (.cells #[.int .i64 xi, .int .i64 xt, .slice ea en ec] 46)
    obtain ⟨e0, e1, e2⟩ := gcells3 (heap_alloc_new wr (.cells #[.int .i64 xi, .int .i64 xt, .slice ea en ec] 46))
    have hz1 : (wr.alloc (.cells #[.int .i64 xi, .int .i64 xt, .slice ea en ec] 46)).heap.size = wr.heap.size + 1 := World.size_alloc ..
    have hre := HRE.out _ hx1
    rw [hz1] at hre
    have HRR := hid hre
    have HX1 := hid hx1
    clear q64a q64b q3 hx4 htk htl hel hx hEB hD1 hD2 hRE hre hx1 hz1 HRE
    go_wp2_with fail
    refine Calls.mono HRR.out ?_
    rintro e w1 ⟨g1, n1, c1, rfl, ho1, hx1⟩
    have HXA := hid (HX1.out.trans' ((ext_alloc _ _).trans' hx1))
    have HB1 := hid (HB.out.keep (w' := w1) (G := fun q => w.heap.size ≤ q ∧ q < w1.heap.size) fun q hq hl => ⟨⟨hq.1, by have := HXA.out.size; omega⟩, HXA.out.block q hl⟩)
    have HO1 := hid (ho1.any (by have h1 := ho1.1; have h2 := HEL.out; omega))
    clear ho1 hx1 HRR HX1 e0 e1 e2 q0 q1 q2
    go_wp2_with fail
    refine Calls.mono (join_two HB1.out HO1.out HTK.out HTL.out 37) ?_
    rintro e w2 ⟨g2, n2, c2, rfl, ho2, hx2⟩
    have hxb : Ext wr w2 := HXA.out.trans' ((ext_alloc _ _).trans' hx2)
    have HO2 := hid ((ho2.by_ (by have h1 := ho2.1; have h2 := HTL.out; omega)).more (G := fun q => w.heap.size ≤ q ∧ q < w2.heap.size) fun q hq => ⟨by have h1 := hq.1; have h2 := HXA.out.size; have h3 := HX.out.size; simp only [World.size_alloc] at h1; omega, hq.2⟩)
    have HXB := hid (HX.out.trans' hxb)
    rw [HD2.out] at HO2
    clear ho2 hx2 hxb
    go_wp2
    go_roundw
    case rel => exact ⟨k + 1, _, n2, c2, by omega, by go_num, rfl, HO2.out, HXB.out⟩
    case measure => simp [intOf]; omega
  have hkn : l.take k = l := List.take_of_length_le (by have := HN.out; omega)
  have hki : ¬ (k : Int) < (n : Int) := by omega
  rw [hkn] at HB
  clear hkn hlt
  go_wp2
  go_ret
  exact ⟨ba, bn, bc, rfl, HB.out, HX.out⟩
theorem wholeB_le (v : Wv) (h : ∀ x ∈ v.l, x.d.length ≤ 4096) : v.whole.length ≤ 4146 * v.l.length + 200 := by
  have h1 := entsB_le v.l h
  have h2 := recB_le (payB [4, v.i, v.t] false [])
  have h3 := payB_len [4, v.i, v.t] false []
  have h4 := recB_le (payB [1, v.ht, v.hv] false [])
  have h5 := payB_len [1, v.ht, v.hv] false []
  have h6 := recB_le (payB [5] false [])
  have h7 := payB_len [5] false []
  simp at h3 h5 h7
  unfold Wv.whole startB hardB endB
  simp only [List.length_append]
  omega
set_option maxRecDepth 100000 in
set_option maxHeartbeats 8000000 in
theorem whole_any {F : Nat → Prop} {w : World} {g : Nat} {v : Wv} {la : Option Addr} {ln lc : Nat} (h : VwAt F w g v la ln lc) (h4 : ∀ x ∈ v.l, x.d.length ≤ 4096) :
    Calls Tryz.prog 76 #[.pointer (some ⟨g, 0, none⟩)] w (BytesPost v.whole w) := by
  have hwl := wholeB_le v h4
  have hel := entsB_le v.l h4
  have hHR := fun W => hardR_any W v.ht v.hv h.i64.1 h.i64.2.1
  have hER := fun W (hW : Ext w W) => entR_any ((h.below hW).es) h.many h4
  have hSR := fun W a n c (hl : IsF (fun _ => True) W a n c [4, v.i, v.t]) => record_any (F := fun _ => False) (w := W) (d := []) (more := false) (ByF.nil_ _ _) hl (by simp) (Nat.zero_le _)
  have hNR := fun W a n c (hl : IsF (fun _ => True) W a n c [5]) => record_any (F := fun _ => False) (w := W) (d := []) (more := false) (ByF.nil_ _ _) hl (by simp) (Nat.zero_le _)
  have hIS := fun W => isF_lit (w := W) [4, v.i, v.t] 3 (by intro x hx; simp at hx; rcases hx with rfl | rfl | rfl; exact ⟨by decide, by decide⟩; exact h.i64.2.2.1; exact h.i64.2.2.2) (by simp)
  have hIN := fun W => isF_lit (w := W) [5] 3 (by intro x hx; simp at hx; subst hx; exact ⟨by decide, by decide⟩) (by simp)
  have hm := h.many
  have HV := hid (fun W (hW : Ext w W) => h.below hW)
  have hsl : (startB v.i v.t).length ≤ 100 ∧ (hardB v.ht v.hv).length ≤ 100 ∧ endB.length ≤ 100 := by
    have h2 := recB_le (payB [4, v.i, v.t] false [])
    have h3 := payB_len [4, v.i, v.t] false []
    have h4 := recB_le (payB [1, v.ht, v.hv] false [])
    have h5 := payB_len [1, v.ht, v.hv] false []
    have h6 := recB_le (payB [5] false [])
    have h7 := payB_len [5] false []
    simp at h3 h5 h7
    unfold startB hardB endB
    omega
  simp only [List.map_cons, List.map_nil, List.length_cons, List.length_nil, Nat.zero_add, Nat.reduceAdd] at hIS hIN
  have hw : v.whole = startB v.i v.t ++ (hardB v.ht v.hv ++ (entsB v.l ++ endB)) := rfl
  obtain ⟨WB, hWB⟩ : ∃ WB, WB = v.whole := ⟨_, rfl⟩
  rw [← hWB] at hw hwl ⊢
  have hs1 : recB (payB [4, v.i, v.t] false []) = startB v.i v.t := by unfold startB; rfl
  have hs2 : recB (payB [5] false []) = endB := by unfold endB; rfl
  rw [hs1] at hSR
  rw [hs2] at hNR
  obtain ⟨B1, hB1⟩ : ∃ B1, B1 = startB v.i v.t := ⟨_, rfl⟩
  obtain ⟨B2, hB2⟩ : ∃ B2, B2 = hardB v.ht v.hv := ⟨_, rfl⟩
  obtain ⟨B3, hB3⟩ : ∃ B3, B3 = entsB v.l := ⟨_, rfl⟩
  obtain ⟨B4, hB4⟩ : ∃ B4, B4 = endB := ⟨_, rfl⟩
  rw [← hB1] at hSR hw hsl
  rw [← hB2] at hHR hw hsl
  rw [← hB3] at hER hw hel
  rw [← hB4] at hNR hw hsl
  have HHR := hid hHR
  have HER := hid hER
  have HSR := hid hSR
  have HNR := hid hNR
  have HIS := hid hIS
  have HIN := hid hIN
  have HW := hid hw
  have HSL := hid (show B1.length ≤ 100 ∧ B2.length ≤ 100 ∧ B3.length ≤ 500000000000 ∧ B4.length ≤ 100 ∧ WB.length ≤ 500000000000 by omega)
  have hgl := World.block_lt_of_cell? w _ h.c0
  clear hHR hER hSR hNR hIS hIN hw hwl hel hsl hm hWB hB1 hB2 hB3 hB4 hs1 hs2 h h4
  go_enter Tryz.func76, Tryz.ntmps76
  go_wp2
  have y0 : Ext w w.drew := ext_drew w
  refine wp_region_held_drew (S := fun W => Ext w W) (by kernel_rfl) y0 (fun hH => ?_)
  clear hH
  obtain ⟨wd, hwd⟩ : ∃ wd, wd = w.drew := ⟨_, rfl⟩
  rw [← hwd] at y0 ⊢
  clear hwd
  refine held_run (i := 0) (v := .pointer (some ⟨g, 0, none⟩)) rfl (by kernel_rfl) (by kernel_rfl) (by kernel_rfl) (fun _ _ _ h => h) (by rfl) y0 (fun W hW => ?_) ?_
  · (clear hW; go_simp)
  try simp only [Act.put, List.setIfInBounds_toArray, List.set_cons_zero, List.set_cons_succ]
  refine held_run (i := 1) (v := .pointer (some ⟨g, 0, none⟩)) rfl (by kernel_rfl) (by kernel_rfl) (by kernel_rfl) (fun _ _ _ h => h) (by rfl) y0 (fun W hW => ?_) ?_
  · (clear hW; go_simp)
  try simp only [Act.put, List.setIfInBounds_toArray, List.set_cons_zero, List.set_cons_succ]
  refine held_run (i := 2) (v := .pointer (some ⟨g, 2, none⟩)) rfl (by kernel_rfl) (by kernel_rfl) (by kernel_rfl) (fun _ _ _ h => h) (by rfl) y0 (fun W hW => ?_) ?_
  · (clear hW; go_simp)
  try simp only [Act.put, List.setIfInBounds_toArray, List.set_cons_zero, List.set_cons_succ]
  refine held_run (i := 3) (v := .int .i64 v.i) rfl (by kernel_rfl) (by kernel_rfl) (by kernel_rfl) (fun _ _ _ h => h) (by rfl) y0 (fun W hW => ?_) ?_
  · (have q := (HV.out W hW).c2; clear hW; go_simp)
  try simp only [Act.put, List.setIfInBounds_toArray, List.set_cons_zero, List.set_cons_succ]
  refine held_run (i := 4) (v := .pointer (some ⟨g, 0, none⟩)) rfl (by kernel_rfl) (by kernel_rfl) (by kernel_rfl) (fun _ _ _ h => h) (by rfl) y0 (fun W hW => ?_) ?_
  · (clear hW; go_simp)
  try simp only [Act.put, List.setIfInBounds_toArray, List.set_cons_zero, List.set_cons_succ]
  refine held_run (i := 5) (v := .pointer (some ⟨g, 0, none⟩)) rfl (by kernel_rfl) (by kernel_rfl) (by kernel_rfl) (fun _ _ _ h => h) (by rfl) y0 (fun W hW => ?_) ?_
  · (clear hW; go_simp)
  try simp only [Act.put, List.setIfInBounds_toArray, List.set_cons_zero, List.set_cons_succ]
  refine held_run (i := 6) (v := .pointer (some ⟨g, 3, none⟩)) rfl (by kernel_rfl) (by kernel_rfl) (by kernel_rfl) (fun _ _ _ h => h) (by rfl) y0 (fun W hW => ?_) ?_
  · (clear hW; go_simp)
  try simp only [Act.put, List.setIfInBounds_toArray, List.set_cons_zero, List.set_cons_succ]
  refine held_run (i := 7) (v := .int .i64 v.t) rfl (by kernel_rfl) (by kernel_rfl) (by kernel_rfl) (fun _ _ _ h => h) (by rfl) y0 (fun W hW => ?_) ?_
  · (have q := (HV.out W hW).c3; clear hW; go_simp)
  try simp only [Act.put, List.setIfInBounds_toArray, List.set_cons_zero, List.set_cons_succ]
  refine held_run (i := 10) (v := .pointer (some ⟨g, 0, none⟩)) rfl (by kernel_rfl) (by kernel_rfl) (by kernel_rfl) (fun _ _ _ h => h) (by rfl) y0 (fun W hW => ?_) ?_
  · (clear hW; go_simp)
  try simp only [Act.put, List.setIfInBounds_toArray, List.set_cons_zero, List.set_cons_succ]
  refine held_run (i := 11) (v := .pointer (some ⟨g, 0, none⟩)) rfl (by kernel_rfl) (by kernel_rfl) (by kernel_rfl) (fun _ _ _ h => h) (by rfl) y0 (fun W hW => ?_) ?_
  · (clear hW; go_simp)
  try simp only [Act.put, List.setIfInBounds_toArray, List.set_cons_zero, List.set_cons_succ]
  refine held_run (i := 12) (v := .pointer (some ⟨g, 0, none⟩)) rfl (by kernel_rfl) (by kernel_rfl) (by kernel_rfl) (fun _ _ _ h => h) (by rfl) y0 (fun W hW => ?_) ?_
  · (clear hW; go_simp)
  try simp only [Act.put, List.setIfInBounds_toArray, List.set_cons_zero, List.set_cons_succ]
  refine held_run (i := 13) (v := .agg #[.int .i64 v.ht, .int .i64 v.hv]) rfl (by kernel_rfl) (by kernel_rfl) (by kernel_rfl) (fun _ _ _ h => h) (by rfl) y0 (fun W hW => ?_) ?_
  · (have q0 := (HV.out W hW).c0; have q1 := (HV.out W hW).c1; clear hW; go_simp)
  try simp only [Act.put, List.setIfInBounds_toArray, List.set_cons_zero, List.set_cons_succ]
  refine held_run (i := 15) (v := .pointer (some ⟨g, 0, none⟩)) rfl (by kernel_rfl) (by kernel_rfl) (by kernel_rfl) (fun _ _ _ h => h) (by rfl) y0 (fun W hW => ?_) ?_
  · (clear hW; go_simp)
  try simp only [Act.put, List.setIfInBounds_toArray, List.set_cons_zero, List.set_cons_succ]
  refine held_run (i := 16) (v := .pointer (some ⟨g, 0, none⟩)) rfl (by kernel_rfl) (by kernel_rfl) (by kernel_rfl) (fun _ _ _ h => h) (by rfl) y0 (fun W hW => ?_) ?_
  · (clear hW; go_simp)
  try simp only [Act.put, List.setIfInBounds_toArray, List.set_cons_zero, List.set_cons_succ]
  refine held_run (i := 17) (v := .pointer (some ⟨g, 4, none⟩)) rfl (by kernel_rfl) (by kernel_rfl) (by kernel_rfl) (fun _ _ _ h => h) (by rfl) y0 (fun W hW => ?_) ?_
  · (clear hW; go_simp)
  try simp only [Act.put, List.setIfInBounds_toArray, List.set_cons_zero, List.set_cons_succ]
  refine held_run (i := 18) (v := .slice la ln lc) rfl (by kernel_rfl) (by kernel_rfl) (by kernel_rfl) (fun _ _ _ h => h) (by rfl) y0 (fun W hW => ?_) ?_
  · (have q := (HV.out W hW).c4; clear hW; go_simp)
  try simp only [Act.put, List.setIfInBounds_toArray, List.set_cons_zero, List.set_cons_succ]
  refine wpAnyH_ready (rs := [8, 20]) (by kernel_rfl) (by simp) ?_
  refine held_cons2 (i := 8) (j := 20) rfl rfl (fun K hK => ?_) (fun K hK => ?_)
  · skip
    go_simp
    have x2 := ext_alloc wd (.cells #[.int .i64 4, .int .i64 v.i, .int .i64 v.t] 3)
    have y1 := y0.trans' x2
    have HI8 := hid (HIS.out wd)
    clear x2
    refine hK.out _ _ y1 (fun hH => ?_)
    clear hK K y0 hH
    have y0 := y1
    clear y1
    try simp only [Act.put, List.setIfInBounds_toArray, List.set_cons_zero, List.set_cons_succ]
    generalize wd.alloc (.cells #[.int .i64 4, .int .i64 v.i, .int .i64 v.t] 3) = v1 at *
    obtain ⟨p8, hp8⟩ : ∃ p8, p8 = wd.heap.size := ⟨_, rfl⟩
    rw [← hp8] at HI8 ⊢
    clear hp8
    refine wpAnyH_ready (rs := [9, 20]) (by kernel_rfl) (by simp) ?_
    refine held_cons2 (i := 9) (j := 20) rfl rfl (fun K hK => ?_) (fun K hK => ?_)
    · skip
      go_simp
      go_at_call 73
      refine Calls.mono (HSR.out _ _ _ _ HI8.out) ?_
      rintro e v2 ⟨g1, n1, c1, rfl, ho, hx⟩
      have y1 := y0.trans' hx
      have HB1 := hid (ho.any (by have h1 := ho.1; have h2 := HSL.out.1; omega))
      clear ho hx
      dsimp only
      refine hK.out _ _ y1 (fun hH => ?_)
      clear hK K y0 hH
      have y0 := y1
      clear y1
      try simp only [Act.put, List.setIfInBounds_toArray, List.set_cons_zero, List.set_cons_succ]
      refine wpAnyH_ready (rs := [14, 20]) (by kernel_rfl) (by simp) ?_
      refine held_cons2 (i := 14) (j := 20) rfl rfl (fun K hK => ?_) (fun K hK => ?_)
      · skip
        go_simp
        go_at_call 70
        refine Calls.mono (HHR.out _) ?_
        rintro e v3 ⟨g2, n2, c2, rfl, ho, hx⟩
        have y1 := y0.trans' hx
        have HB2 := hid (ho.any (by have h1 := ho.1; have h2 := HSL.out.2.1; omega))
        have HB1 := hid (HB1.out.below hx)
        clear ho hx
        dsimp only
        refine hK.out _ _ y1 (fun hH => ?_)
        clear hK K y0 hH
        have y0 := y1
        clear y1
        try simp only [Act.put, List.setIfInBounds_toArray, List.set_cons_zero, List.set_cons_succ]
        refine wpAnyH_ready (rs := [19, 20]) (by kernel_rfl) (by simp) ?_
        refine held_cons2 (i := 19) (j := 20) rfl rfl (fun K hK => ?_) (fun K hK => ?_)
        · skip
          go_simp
          go_at_call 67
          refine Calls.mono (HER.out _ y0) ?_
          rintro e v4 ⟨a3, n3, c3, rfl, ho, hx⟩
          have y1 := y0.trans' hx
          have HB3 := hid (ho.more (G := fun _ => True) fun _ _ => trivial)
          have HB1 := hid (HB1.out.below hx)
          have HB2 := hid (HB2.out.below hx)
          clear ho hx
          dsimp only
          refine hK.out _ _ y1 (fun hH => ?_)
          clear hK K y0 hH
          have y0 := y1
          clear y1
          try simp only [Act.put, List.setIfInBounds_toArray, List.set_cons_zero, List.set_cons_succ]
          refine wpAnyH_ready (rs := [20]) (by kernel_rfl) (by simp) ?_
          refine held_cons (i := 20) rfl (fun K hK => ?_)
          go_simp
          have x2 := ext_alloc v4 (.cells #[.int .i64 5] 3)
          have y1 := y0.trans' x2
          have HI20 := hid (HIN.out v4)
          have HB1 := hid (HB1.out.below x2)
          have HB2 := hid (HB2.out.below x2)
          have HB3 := hid (HB3.out.below x2)
          clear x2
          refine hK.out _ _ y1 (fun hH => ?_)
          clear hK K y0 hH
          have y0 := y1
          clear y1
          try simp only [Act.put, List.setIfInBounds_toArray, List.set_cons_zero, List.set_cons_succ]
          generalize v4.alloc (.cells #[.int .i64 5] 3) = v5 at *
          obtain ⟨p20, hp20⟩ : ∃ p20, p20 = v4.heap.size := ⟨_, rfl⟩
          rw [← hp20] at HI20 ⊢
          clear hp20
          refine wpAnyH_ready (rs := [21]) (by kernel_rfl) (by simp) ?_
          refine held_cons (i := 21) rfl (fun K hK => ?_)
          go_simp
          go_at_call 73
          refine Calls.mono (HNR.out _ _ _ _ HI20.out) ?_
          rintro e v6 ⟨g4, n4, c4, rfl, ho, hx⟩
          have y1 := y0.trans' hx
          have HB4 := hid (ho.any (by have h1 := ho.1; have h2 := HSL.out.2.2.2.1; omega))
          have HB1 := hid (HB1.out.below hx)
          have HB2 := hid (HB2.out.below hx)
          have HB3 := hid (HB3.out.below hx)
          clear ho hx
          dsimp only
          refine hK.out _ _ y1 (fun hH => ?_)
          clear hK K y0 hH
          have y0 := y1
          clear y1
          try simp only [Act.put, List.setIfInBounds_toArray, List.set_cons_zero, List.set_cons_succ]
          refine wpAnyH_ready (rs := [22]) (by kernel_rfl) (by simp) ?_
          refine held_cons (i := 22) rfl (fun K hK => ?_)
          go_simp
          have x2 := ext_alloc v6 (.cells #[.slice (some ⟨g1, 0, none⟩) n1 c1, .slice (some ⟨g2, 0, none⟩) n2 c2, .slice a3 n3 c3, .slice (some ⟨g4, 0, none⟩) n4 c4] 37)
          have y1 := y0.trans' x2
          have HJ := hid (join_four HB1.out HB2.out HB3.out HB4.out HW.out (by have := HSL.out.2.2.2.2; omega) 37)
          clear x2
          refine hK.out _ _ y1 (fun hH => ?_)
          clear hK K y0 hH
          have y0 := y1
          clear y1
          try simp only [Act.put, List.setIfInBounds_toArray, List.set_cons_zero, List.set_cons_succ]
          generalize v6.alloc (.cells #[.slice (some ⟨g1, 0, none⟩) n1 c1, .slice (some ⟨g2, 0, none⟩) n2 c2, .slice a3 n3 c3, .slice (some ⟨g4, 0, none⟩) n4 c4] 37) = v7 at *
          refine wpAnyH_ready (rs := [23]) (by kernel_rfl) (by simp) ?_
          refine held_cons (i := 23) rfl (fun K hK => ?_)
          go_simp
          go_at_call 117
          refine Calls.mono HJ.out ?_
          rintro e v8 ⟨gw, nw, cw, rfl, ho, hx⟩
          have HOW := hid (OwnB.mono ho y0.size)
          have y1 := y0.trans' hx
          clear ho hx
          dsimp only
          refine hK.out _ _ y1 (fun hH => ?_)
          clear hK K y0 hH
          have y0 := y1
          clear y1
          try simp only [Act.put, List.setIfInBounds_toArray, List.set_cons_zero, List.set_cons_succ]
          refine held_run (i := 24) (v := .slice (some ⟨gw, 0, none⟩) nw cw) rfl (by kernel_rfl) (by kernel_rfl) (by kernel_rfl) (fun _ _ _ h => h) (by rfl) y0 (fun W hW => ?_) ?_
          · (clear hW; go_simp)
          try simp only [Act.put, List.setIfInBounds_toArray, List.set_cons_zero, List.set_cons_succ]
          refine wpAnyH_done (by kernel_rfl) ?_ _
          have HY := hid y0
          clear y0
          go_wp2
          go_ret
          exact ⟨gw, nw, cw, rfl, HOW.out, HY.out⟩
        skip
        go_simp
        have x2 := ext_alloc v3 (.cells #[.int .i64 5] 3)
        have y1 := y0.trans' x2
        have HI20 := hid (HIN.out v3)
        have HB1 := hid (HB1.out.below x2)
        have HB2 := hid (HB2.out.below x2)
        clear x2
        refine hK.out _ _ y1 (fun hH => ?_)
        clear hK K y0 hH
        have y0 := y1
        clear y1
        try simp only [Act.put, List.setIfInBounds_toArray, List.set_cons_zero, List.set_cons_succ]
        generalize v3.alloc (.cells #[.int .i64 5] 3) = v9 at *
        obtain ⟨p20, hp20⟩ : ∃ p20, p20 = v3.heap.size := ⟨_, rfl⟩
        rw [← hp20] at HI20 ⊢
        clear hp20
        refine wpAnyH_ready (rs := [19]) (by kernel_rfl) (by simp) ?_
        refine held_cons (i := 19) rfl (fun K hK => ?_)
        go_simp
        go_at_call 67
        refine Calls.mono (HER.out _ y0) ?_
        rintro e v10 ⟨a3, n3, c3, rfl, ho, hx⟩
        have y1 := y0.trans' hx
        have HB3 := hid (ho.more (G := fun _ => True) fun _ _ => trivial)
        have HB1 := hid (HB1.out.below hx)
        have HB2 := hid (HB2.out.below hx)
        have HI20 := hid (HI20.out.below hx)
        clear ho hx
        dsimp only
        refine hK.out _ _ y1 (fun hH => ?_)
        clear hK K y0 hH
        have y0 := y1
        clear y1
        try simp only [Act.put, List.setIfInBounds_toArray, List.set_cons_zero, List.set_cons_succ]
        refine wpAnyH_ready (rs := [21]) (by kernel_rfl) (by simp) ?_
        refine held_cons (i := 21) rfl (fun K hK => ?_)
        go_simp
        go_at_call 73
        refine Calls.mono (HNR.out _ _ _ _ HI20.out) ?_
        rintro e v11 ⟨g4, n4, c4, rfl, ho, hx⟩
        have y1 := y0.trans' hx
        have HB4 := hid (ho.any (by have h1 := ho.1; have h2 := HSL.out.2.2.2.1; omega))
        have HB1 := hid (HB1.out.below hx)
        have HB2 := hid (HB2.out.below hx)
        have HB3 := hid (HB3.out.below hx)
        clear ho hx
        dsimp only
        refine hK.out _ _ y1 (fun hH => ?_)
        clear hK K y0 hH
        have y0 := y1
        clear y1
        try simp only [Act.put, List.setIfInBounds_toArray, List.set_cons_zero, List.set_cons_succ]
        refine wpAnyH_ready (rs := [22]) (by kernel_rfl) (by simp) ?_
        refine held_cons (i := 22) rfl (fun K hK => ?_)
        go_simp
        have x2 := ext_alloc v11 (.cells #[.slice (some ⟨g1, 0, none⟩) n1 c1, .slice (some ⟨g2, 0, none⟩) n2 c2, .slice a3 n3 c3, .slice (some ⟨g4, 0, none⟩) n4 c4] 37)
        have y1 := y0.trans' x2
        have HJ := hid (join_four HB1.out HB2.out HB3.out HB4.out HW.out (by have := HSL.out.2.2.2.2; omega) 37)
        clear x2
        refine hK.out _ _ y1 (fun hH => ?_)
        clear hK K y0 hH
        have y0 := y1
        clear y1
        try simp only [Act.put, List.setIfInBounds_toArray, List.set_cons_zero, List.set_cons_succ]
        generalize v11.alloc (.cells #[.slice (some ⟨g1, 0, none⟩) n1 c1, .slice (some ⟨g2, 0, none⟩) n2 c2, .slice a3 n3 c3, .slice (some ⟨g4, 0, none⟩) n4 c4] 37) = v12 at *
        refine wpAnyH_ready (rs := [23]) (by kernel_rfl) (by simp) ?_
        refine held_cons (i := 23) rfl (fun K hK => ?_)
        go_simp
        go_at_call 117
        refine Calls.mono HJ.out ?_
        rintro e v13 ⟨gw, nw, cw, rfl, ho, hx⟩
        have HOW := hid (OwnB.mono ho y0.size)
        have y1 := y0.trans' hx
        clear ho hx
        dsimp only
        refine hK.out _ _ y1 (fun hH => ?_)
        clear hK K y0 hH
        have y0 := y1
        clear y1
        try simp only [Act.put, List.setIfInBounds_toArray, List.set_cons_zero, List.set_cons_succ]
        refine held_run (i := 24) (v := .slice (some ⟨gw, 0, none⟩) nw cw) rfl (by kernel_rfl) (by kernel_rfl) (by kernel_rfl) (fun _ _ _ h => h) (by rfl) y0 (fun W hW => ?_) ?_
        · (clear hW; go_simp)
        try simp only [Act.put, List.setIfInBounds_toArray, List.set_cons_zero, List.set_cons_succ]
        refine wpAnyH_done (by kernel_rfl) ?_ _
        have HY := hid y0
        clear y0
        go_wp2
        go_ret
        exact ⟨gw, nw, cw, rfl, HOW.out, HY.out⟩
      skip
      go_simp
      have x2 := ext_alloc v2 (.cells #[.int .i64 5] 3)
      have y1 := y0.trans' x2
      have HI20 := hid (HIN.out v2)
      have HB1 := hid (HB1.out.below x2)
      clear x2
      refine hK.out _ _ y1 (fun hH => ?_)
      clear hK K y0 hH
      have y0 := y1
      clear y1
      try simp only [Act.put, List.setIfInBounds_toArray, List.set_cons_zero, List.set_cons_succ]
      generalize v2.alloc (.cells #[.int .i64 5] 3) = v14 at *
      obtain ⟨p20, hp20⟩ : ∃ p20, p20 = v2.heap.size := ⟨_, rfl⟩
      rw [← hp20] at HI20 ⊢
      clear hp20
      refine wpAnyH_ready (rs := [14]) (by kernel_rfl) (by simp) ?_
      refine held_cons (i := 14) rfl (fun K hK => ?_)
      go_simp
      go_at_call 70
      refine Calls.mono (HHR.out _) ?_
      rintro e v15 ⟨g2, n2, c2, rfl, ho, hx⟩
      have y1 := y0.trans' hx
      have HB2 := hid (ho.any (by have h1 := ho.1; have h2 := HSL.out.2.1; omega))
      have HB1 := hid (HB1.out.below hx)
      have HI20 := hid (HI20.out.below hx)
      clear ho hx
      dsimp only
      refine hK.out _ _ y1 (fun hH => ?_)
      clear hK K y0 hH
      have y0 := y1
      clear y1
      try simp only [Act.put, List.setIfInBounds_toArray, List.set_cons_zero, List.set_cons_succ]
      refine wpAnyH_ready (rs := [19]) (by kernel_rfl) (by simp) ?_
      refine held_cons (i := 19) rfl (fun K hK => ?_)
      go_simp
      go_at_call 67
      refine Calls.mono (HER.out _ y0) ?_
      rintro e v16 ⟨a3, n3, c3, rfl, ho, hx⟩
      have y1 := y0.trans' hx
      have HB3 := hid (ho.more (G := fun _ => True) fun _ _ => trivial)
      have HB1 := hid (HB1.out.below hx)
      have HB2 := hid (HB2.out.below hx)
      have HI20 := hid (HI20.out.below hx)
      clear ho hx
      dsimp only
      refine hK.out _ _ y1 (fun hH => ?_)
      clear hK K y0 hH
      have y0 := y1
      clear y1
      try simp only [Act.put, List.setIfInBounds_toArray, List.set_cons_zero, List.set_cons_succ]
      refine wpAnyH_ready (rs := [21]) (by kernel_rfl) (by simp) ?_
      refine held_cons (i := 21) rfl (fun K hK => ?_)
      go_simp
      go_at_call 73
      refine Calls.mono (HNR.out _ _ _ _ HI20.out) ?_
      rintro e v17 ⟨g4, n4, c4, rfl, ho, hx⟩
      have y1 := y0.trans' hx
      have HB4 := hid (ho.any (by have h1 := ho.1; have h2 := HSL.out.2.2.2.1; omega))
      have HB1 := hid (HB1.out.below hx)
      have HB2 := hid (HB2.out.below hx)
      have HB3 := hid (HB3.out.below hx)
      clear ho hx
      dsimp only
      refine hK.out _ _ y1 (fun hH => ?_)
      clear hK K y0 hH
      have y0 := y1
      clear y1
      try simp only [Act.put, List.setIfInBounds_toArray, List.set_cons_zero, List.set_cons_succ]
      refine wpAnyH_ready (rs := [22]) (by kernel_rfl) (by simp) ?_
      refine held_cons (i := 22) rfl (fun K hK => ?_)
      go_simp
      have x2 := ext_alloc v17 (.cells #[.slice (some ⟨g1, 0, none⟩) n1 c1, .slice (some ⟨g2, 0, none⟩) n2 c2, .slice a3 n3 c3, .slice (some ⟨g4, 0, none⟩) n4 c4] 37)
      have y1 := y0.trans' x2
      have HJ := hid (join_four HB1.out HB2.out HB3.out HB4.out HW.out (by have := HSL.out.2.2.2.2; omega) 37)
      clear x2
      refine hK.out _ _ y1 (fun hH => ?_)
      clear hK K y0 hH
      have y0 := y1
      clear y1
      try simp only [Act.put, List.setIfInBounds_toArray, List.set_cons_zero, List.set_cons_succ]
      generalize v17.alloc (.cells #[.slice (some ⟨g1, 0, none⟩) n1 c1, .slice (some ⟨g2, 0, none⟩) n2 c2, .slice a3 n3 c3, .slice (some ⟨g4, 0, none⟩) n4 c4] 37) = v18 at *
      refine wpAnyH_ready (rs := [23]) (by kernel_rfl) (by simp) ?_
      refine held_cons (i := 23) rfl (fun K hK => ?_)
      go_simp
      go_at_call 117
      refine Calls.mono HJ.out ?_
      rintro e v19 ⟨gw, nw, cw, rfl, ho, hx⟩
      have HOW := hid (OwnB.mono ho y0.size)
      have y1 := y0.trans' hx
      clear ho hx
      dsimp only
      refine hK.out _ _ y1 (fun hH => ?_)
      clear hK K y0 hH
      have y0 := y1
      clear y1
      try simp only [Act.put, List.setIfInBounds_toArray, List.set_cons_zero, List.set_cons_succ]
      refine held_run (i := 24) (v := .slice (some ⟨gw, 0, none⟩) nw cw) rfl (by kernel_rfl) (by kernel_rfl) (by kernel_rfl) (fun _ _ _ h => h) (by rfl) y0 (fun W hW => ?_) ?_
      · (clear hW; go_simp)
      try simp only [Act.put, List.setIfInBounds_toArray, List.set_cons_zero, List.set_cons_succ]
      refine wpAnyH_done (by kernel_rfl) ?_ _
      have HY := hid y0
      clear y0
      go_wp2
      go_ret
      exact ⟨gw, nw, cw, rfl, HOW.out, HY.out⟩
    skip
    go_simp
    have x2 := ext_alloc v1 (.cells #[.int .i64 5] 3)
    have y1 := y0.trans' x2
    have HI20 := hid (HIN.out v1)
    have HI8 := hid (HI8.out.below x2)
    clear x2
    refine hK.out _ _ y1 (fun hH => ?_)
    clear hK K y0 hH
    have y0 := y1
    clear y1
    try simp only [Act.put, List.setIfInBounds_toArray, List.set_cons_zero, List.set_cons_succ]
    generalize v1.alloc (.cells #[.int .i64 5] 3) = v20 at *
    obtain ⟨p20, hp20⟩ : ∃ p20, p20 = v1.heap.size := ⟨_, rfl⟩
    rw [← hp20] at HI20 ⊢
    clear hp20
    refine wpAnyH_ready (rs := [9]) (by kernel_rfl) (by simp) ?_
    refine held_cons (i := 9) rfl (fun K hK => ?_)
    go_simp
    go_at_call 73
    refine Calls.mono (HSR.out _ _ _ _ HI8.out) ?_
    rintro e v21 ⟨g1, n1, c1, rfl, ho, hx⟩
    have y1 := y0.trans' hx
    have HB1 := hid (ho.any (by have h1 := ho.1; have h2 := HSL.out.1; omega))
    have HI20 := hid (HI20.out.below hx)
    clear ho hx
    dsimp only
    refine hK.out _ _ y1 (fun hH => ?_)
    clear hK K y0 hH
    have y0 := y1
    clear y1
    try simp only [Act.put, List.setIfInBounds_toArray, List.set_cons_zero, List.set_cons_succ]
    refine wpAnyH_ready (rs := [14]) (by kernel_rfl) (by simp) ?_
    refine held_cons (i := 14) rfl (fun K hK => ?_)
    go_simp
    go_at_call 70
    refine Calls.mono (HHR.out _) ?_
    rintro e v22 ⟨g2, n2, c2, rfl, ho, hx⟩
    have y1 := y0.trans' hx
    have HB2 := hid (ho.any (by have h1 := ho.1; have h2 := HSL.out.2.1; omega))
    have HB1 := hid (HB1.out.below hx)
    have HI20 := hid (HI20.out.below hx)
    clear ho hx
    dsimp only
    refine hK.out _ _ y1 (fun hH => ?_)
    clear hK K y0 hH
    have y0 := y1
    clear y1
    try simp only [Act.put, List.setIfInBounds_toArray, List.set_cons_zero, List.set_cons_succ]
    refine wpAnyH_ready (rs := [19]) (by kernel_rfl) (by simp) ?_
    refine held_cons (i := 19) rfl (fun K hK => ?_)
    go_simp
    go_at_call 67
    refine Calls.mono (HER.out _ y0) ?_
    rintro e v23 ⟨a3, n3, c3, rfl, ho, hx⟩
    have y1 := y0.trans' hx
    have HB3 := hid (ho.more (G := fun _ => True) fun _ _ => trivial)
    have HB1 := hid (HB1.out.below hx)
    have HB2 := hid (HB2.out.below hx)
    have HI20 := hid (HI20.out.below hx)
    clear ho hx
    dsimp only
    refine hK.out _ _ y1 (fun hH => ?_)
    clear hK K y0 hH
    have y0 := y1
    clear y1
    try simp only [Act.put, List.setIfInBounds_toArray, List.set_cons_zero, List.set_cons_succ]
    refine wpAnyH_ready (rs := [21]) (by kernel_rfl) (by simp) ?_
    refine held_cons (i := 21) rfl (fun K hK => ?_)
    go_simp
    go_at_call 73
    refine Calls.mono (HNR.out _ _ _ _ HI20.out) ?_
    rintro e v24 ⟨g4, n4, c4, rfl, ho, hx⟩
    have y1 := y0.trans' hx
    have HB4 := hid (ho.any (by have h1 := ho.1; have h2 := HSL.out.2.2.2.1; omega))
    have HB1 := hid (HB1.out.below hx)
    have HB2 := hid (HB2.out.below hx)
    have HB3 := hid (HB3.out.below hx)
    clear ho hx
    dsimp only
    refine hK.out _ _ y1 (fun hH => ?_)
    clear hK K y0 hH
    have y0 := y1
    clear y1
    try simp only [Act.put, List.setIfInBounds_toArray, List.set_cons_zero, List.set_cons_succ]
    refine wpAnyH_ready (rs := [22]) (by kernel_rfl) (by simp) ?_
    refine held_cons (i := 22) rfl (fun K hK => ?_)
    go_simp
    have x2 := ext_alloc v24 (.cells #[.slice (some ⟨g1, 0, none⟩) n1 c1, .slice (some ⟨g2, 0, none⟩) n2 c2, .slice a3 n3 c3, .slice (some ⟨g4, 0, none⟩) n4 c4] 37)
    have y1 := y0.trans' x2
    have HJ := hid (join_four HB1.out HB2.out HB3.out HB4.out HW.out (by have := HSL.out.2.2.2.2; omega) 37)
    clear x2
    refine hK.out _ _ y1 (fun hH => ?_)
    clear hK K y0 hH
    have y0 := y1
    clear y1
    try simp only [Act.put, List.setIfInBounds_toArray, List.set_cons_zero, List.set_cons_succ]
    generalize v24.alloc (.cells #[.slice (some ⟨g1, 0, none⟩) n1 c1, .slice (some ⟨g2, 0, none⟩) n2 c2, .slice a3 n3 c3, .slice (some ⟨g4, 0, none⟩) n4 c4] 37) = v25 at *
    refine wpAnyH_ready (rs := [23]) (by kernel_rfl) (by simp) ?_
    refine held_cons (i := 23) rfl (fun K hK => ?_)
    go_simp
    go_at_call 117
    refine Calls.mono HJ.out ?_
    rintro e v26 ⟨gw, nw, cw, rfl, ho, hx⟩
    have HOW := hid (OwnB.mono ho y0.size)
    have y1 := y0.trans' hx
    clear ho hx
    dsimp only
    refine hK.out _ _ y1 (fun hH => ?_)
    clear hK K y0 hH
    have y0 := y1
    clear y1
    try simp only [Act.put, List.setIfInBounds_toArray, List.set_cons_zero, List.set_cons_succ]
    refine held_run (i := 24) (v := .slice (some ⟨gw, 0, none⟩) nw cw) rfl (by kernel_rfl) (by kernel_rfl) (by kernel_rfl) (fun _ _ _ h => h) (by rfl) y0 (fun W hW => ?_) ?_
    · (clear hW; go_simp)
    try simp only [Act.put, List.setIfInBounds_toArray, List.set_cons_zero, List.set_cons_succ]
    refine wpAnyH_done (by kernel_rfl) ?_ _
    have HY := hid y0
    clear y0
    go_wp2
    go_ret
    exact ⟨gw, nw, cw, rfl, HOW.out, HY.out⟩
  skip
  go_simp
  have x2 := ext_alloc wd (.cells #[.int .i64 5] 3)
  have y1 := y0.trans' x2
  have HI20 := hid (HIN.out wd)
  clear x2
  refine hK.out _ _ y1 (fun hH => ?_)
  clear hK K y0 hH
  have y0 := y1
  clear y1
  try simp only [Act.put, List.setIfInBounds_toArray, List.set_cons_zero, List.set_cons_succ]
  generalize wd.alloc (.cells #[.int .i64 5] 3) = v27 at *
  obtain ⟨p20, hp20⟩ : ∃ p20, p20 = wd.heap.size := ⟨_, rfl⟩
  rw [← hp20] at HI20 ⊢
  clear hp20
  refine wpAnyH_ready (rs := [8]) (by kernel_rfl) (by simp) ?_
  refine held_cons (i := 8) rfl (fun K hK => ?_)
  go_simp
  have x2 := ext_alloc v27 (.cells #[.int .i64 4, .int .i64 v.i, .int .i64 v.t] 3)
  have y1 := y0.trans' x2
  have HI8 := hid (HIS.out v27)
  have HI20 := hid (HI20.out.below x2)
  clear x2
  refine hK.out _ _ y1 (fun hH => ?_)
  clear hK K y0 hH
  have y0 := y1
  clear y1
  try simp only [Act.put, List.setIfInBounds_toArray, List.set_cons_zero, List.set_cons_succ]
  generalize v27.alloc (.cells #[.int .i64 4, .int .i64 v.i, .int .i64 v.t] 3) = v28 at *
  obtain ⟨p8, hp8⟩ : ∃ p8, p8 = v27.heap.size := ⟨_, rfl⟩
  rw [← hp8] at HI8 ⊢
  clear hp8
  refine wpAnyH_ready (rs := [9]) (by kernel_rfl) (by simp) ?_
  refine held_cons (i := 9) rfl (fun K hK => ?_)
  go_simp
  go_at_call 73
  refine Calls.mono (HSR.out _ _ _ _ HI8.out) ?_
  rintro e v29 ⟨g1, n1, c1, rfl, ho, hx⟩
  have y1 := y0.trans' hx
  have HB1 := hid (ho.any (by have h1 := ho.1; have h2 := HSL.out.1; omega))
  have HI20 := hid (HI20.out.below hx)
  clear ho hx
  dsimp only
  refine hK.out _ _ y1 (fun hH => ?_)
  clear hK K y0 hH
  have y0 := y1
  clear y1
  try simp only [Act.put, List.setIfInBounds_toArray, List.set_cons_zero, List.set_cons_succ]
  refine wpAnyH_ready (rs := [14]) (by kernel_rfl) (by simp) ?_
  refine held_cons (i := 14) rfl (fun K hK => ?_)
  go_simp
  go_at_call 70
  refine Calls.mono (HHR.out _) ?_
  rintro e v30 ⟨g2, n2, c2, rfl, ho, hx⟩
  have y1 := y0.trans' hx
  have HB2 := hid (ho.any (by have h1 := ho.1; have h2 := HSL.out.2.1; omega))
  have HB1 := hid (HB1.out.below hx)
  have HI20 := hid (HI20.out.below hx)
  clear ho hx
  dsimp only
  refine hK.out _ _ y1 (fun hH => ?_)
  clear hK K y0 hH
  have y0 := y1
  clear y1
  try simp only [Act.put, List.setIfInBounds_toArray, List.set_cons_zero, List.set_cons_succ]
  refine wpAnyH_ready (rs := [19]) (by kernel_rfl) (by simp) ?_
  refine held_cons (i := 19) rfl (fun K hK => ?_)
  go_simp
  go_at_call 67
  refine Calls.mono (HER.out _ y0) ?_
  rintro e v31 ⟨a3, n3, c3, rfl, ho, hx⟩
  have y1 := y0.trans' hx
  have HB3 := hid (ho.more (G := fun _ => True) fun _ _ => trivial)
  have HB1 := hid (HB1.out.below hx)
  have HB2 := hid (HB2.out.below hx)
  have HI20 := hid (HI20.out.below hx)
  clear ho hx
  dsimp only
  refine hK.out _ _ y1 (fun hH => ?_)
  clear hK K y0 hH
  have y0 := y1
  clear y1
  try simp only [Act.put, List.setIfInBounds_toArray, List.set_cons_zero, List.set_cons_succ]
  refine wpAnyH_ready (rs := [21]) (by kernel_rfl) (by simp) ?_
  refine held_cons (i := 21) rfl (fun K hK => ?_)
  go_simp
  go_at_call 73
  refine Calls.mono (HNR.out _ _ _ _ HI20.out) ?_
  rintro e v32 ⟨g4, n4, c4, rfl, ho, hx⟩
  have y1 := y0.trans' hx
  have HB4 := hid (ho.any (by have h1 := ho.1; have h2 := HSL.out.2.2.2.1; omega))
  have HB1 := hid (HB1.out.below hx)
  have HB2 := hid (HB2.out.below hx)
  have HB3 := hid (HB3.out.below hx)
  clear ho hx
  dsimp only
  refine hK.out _ _ y1 (fun hH => ?_)
  clear hK K y0 hH
  have y0 := y1
  clear y1
  try simp only [Act.put, List.setIfInBounds_toArray, List.set_cons_zero, List.set_cons_succ]
  refine wpAnyH_ready (rs := [22]) (by kernel_rfl) (by simp) ?_
  refine held_cons (i := 22) rfl (fun K hK => ?_)
  go_simp
  have x2 := ext_alloc v32 (.cells #[.slice (some ⟨g1, 0, none⟩) n1 c1, .slice (some ⟨g2, 0, none⟩) n2 c2, .slice a3 n3 c3, .slice (some ⟨g4, 0, none⟩) n4 c4] 37)
  have y1 := y0.trans' x2
  have HJ := hid (join_four HB1.out HB2.out HB3.out HB4.out HW.out (by have := HSL.out.2.2.2.2; omega) 37)
  clear x2
  refine hK.out _ _ y1 (fun hH => ?_)
  clear hK K y0 hH
  have y0 := y1
  clear y1
  try simp only [Act.put, List.setIfInBounds_toArray, List.set_cons_zero, List.set_cons_succ]
  generalize v32.alloc (.cells #[.slice (some ⟨g1, 0, none⟩) n1 c1, .slice (some ⟨g2, 0, none⟩) n2 c2, .slice a3 n3 c3, .slice (some ⟨g4, 0, none⟩) n4 c4] 37) = v33 at *
  refine wpAnyH_ready (rs := [23]) (by kernel_rfl) (by simp) ?_
  refine held_cons (i := 23) rfl (fun K hK => ?_)
  go_simp
  go_at_call 117
  refine Calls.mono HJ.out ?_
  rintro e v34 ⟨gw, nw, cw, rfl, ho, hx⟩
  have HOW := hid (OwnB.mono ho y0.size)
  have y1 := y0.trans' hx
  clear ho hx
  dsimp only
  refine hK.out _ _ y1 (fun hH => ?_)
  clear hK K y0 hH
  have y0 := y1
  clear y1
  try simp only [Act.put, List.setIfInBounds_toArray, List.set_cons_zero, List.set_cons_succ]
  refine held_run (i := 24) (v := .slice (some ⟨gw, 0, none⟩) nw cw) rfl (by kernel_rfl) (by kernel_rfl) (by kernel_rfl) (fun _ _ _ h => h) (by rfl) y0 (fun W hW => ?_) ?_
  · (clear hW; go_simp)
  try simp only [Act.put, List.setIfInBounds_toArray, List.set_cons_zero, List.set_cons_succ]
  refine wpAnyH_done (by kernel_rfl) ?_ _
  have HY := hid y0
  clear y0
  go_wp2
  go_ret
  exact ⟨gw, nw, cw, rfl, HOW.out, HY.out⟩
end Go.Proofs.YtikjckdoldiddaaGreatDoor

/- slices.Clone at entries; entries of a row of the call's own. -/
namespace Go.Proofs.YtikjckdoldiddaaGreatDoor
open Go.RowKit Go.Maps
set_option linter.unusedVariables false
set_option linter.unusedSimpArgs false
attribute [local go_sem] bmax2 bmin2 bmax_two bmin_two

theorem info_ent : (Tryz.prog.info? 46).map (fun i => (i.zero, i.size, i.bytes)) = some (some (.agg #[.int .i64 0, .int .i64 0, .slice none 0 0]), 3, 40) := by kernel_rfl

set_option maxHeartbeats 400000 in
theorem cloneE_any (a : Option Addr) (n c : Nat) (H : List EH) (w : World) (hd : n = H.length) (hn : n * 40 ≤ 140737488351232) (hc : a = none → c = 0) (hr : RowAt w a n 3 (rawH H)) :
    Calls Tryz.prog 52 #[.slice a n c] w fun e w' => ∃ v, e = .returned v ∧ w'.ownsRow w.heap.size 46 3 v H.length (rawH H) ∧ Ext w w' := by
  have hdn := hd
  clear hd
  cases a with
  | none =>
    have h0 := hr.2.1 rfl
    have hc0 := hc rfl
    subst h0; subst hc0
    have hd0 : H = [] := List.eq_nil_of_length_eq_zero hdn.symm
    subst hd0
    clear hr hc hn hdn
    have he := fun W => Lib.run_eql_slice_nil (P := Tryz.prog) W 40 46 none 0 0 0 0 Tryz.underlying40
    go_enter Tryz.func52, Tryz.ntmps52
    go_wp2
    go_ret
    exact ⟨_, rfl, World.ownsRow_nil _ _ _ _, Below.refl _ _⟩
  | some p =>
    have hr' := hr.ext (ext_alloc w (.cells #[] 46))
    have HR := hid hr'
    clear hr hr' hc
    have HD := hid hdn
    clear hdn
    have he := fun W => Lib.run_eql_slice_nil (P := Tryz.prog) W 40 46 (some p) n c 0 0 Tryz.underlying40
    go_enter Tryz.func52, Tryz.ntmps52
    go_wp2_with (at_builtin; refine wpList_append_row rfl (.tmp 5) (.tmp 6) _ rfl w.heap.size 46 (.agg #[.int .i64 0, .int .i64 0, .slice none 0 0]) 3 40 Tryz.underlying40 info_ent rfl (by decide) (.slice (some ⟨w.heap.size, 0, none⟩) 0 0) 0 [] rfl (World.ownsRow_made w #[] 0 (Nat.le_refl _) (Nat.zero_le _) rfl) (some p) n c (rawH H) rfl (fun h => by cases h) HR.out (rawH_mem H) (by unfold maxLen; omega) (by omega) (by simp) ?_; intro v' w1 hown hg)
    go_ret
    refine ⟨v', rfl, ?_, ?_⟩
    · rw [← HD.out]; simpa using hown
    exact (ext_alloc w _).grown hg (by simp) (by simp [Value.ownBlock])

theorem wnews_row (w : World) (cs : List Value) (n size : Nat) (t : TypeId) (hn : cs.length = n * size) : RowAt (w.alloc (.cells cs.toArray t)) (some ⟨w.heap.size, 0, none⟩) n size cs := by
  refine ⟨hn, (fun e => by cases e), fun p hp j u hu => ?_⟩
  cases hp
  rw [add_lit, Nat.zero_add, cell_of_row _ w.heap.size j cs.toArray t (0, 0) (heap_alloc_new w _)]
  simpa using hu
theorem wthree (x0 x1 : Int) (x2 : Option Addr) (x3 x4 : Nat) : ∀ u ∈ [Value.int .i64 x0, .int .i64 x1, .slice x2 x3 x4], u.oneCell' = true := by
  intro u hu
  simp only [List.mem_cons, List.not_mem_nil, or_false] at hu
  rcases hu with rfl | rfl | rfl <;> rfl
theorem rawH_snoc (H : List EH) (x : EH) : rawH (H ++ [x]) = rawH H ++ [.int .i64 x.i, .int .i64 x.t, .slice x.a x.n x.c] := by
  unfold rawH
  rw [List.flatMap_append]
  rfl
theorem es_back {F : Nat → Prop} {w : World} {B : Nat} {v : Value} {H : List EH} {l : List Ent} (hown : w.ownsRow B 46 3 v H.length (rawH H)) (hlen : H.length = l.length)
    (hH : ∀ k (h1 : k < H.length) (h2 : k < l.length), H[k].i = l[k].i ∧ H[k].t = l[k].t ∧ ByF F w H[k].a H[k].n H[k].c l[k].d) (h64 : ∀ k, (h : k < l.length) → In64 l[k].i ∧ In64 l[k].t) (hm : l.length * 40 ≤ 140737488351232) :
    ∃ a c, v = .slice a l.length c ∧ EsF (fun q => F q ∨ (B ≤ q ∧ q < w.heap.size)) w a l.length c l := by
  have hown0 := hown
  obtain ⟨hl3, ⟨rfl, h0⟩ | ⟨g, cap, cur, rfl, hb, hg, hn, hmx, hs, ht⟩⟩ := hown
  · have hl : l = [] := List.eq_nil_of_length_eq_zero (by omega)
    subst hl
    exact ⟨none, 0, rfl, EsF.nil_ _ _⟩
  have hgl := (Array.getElem?_eq_some_iff.1 hg).1
  refine ⟨_, cap, by rw [hlen], rfl, by omega, ⟨hmx, hm⟩, (fun e => by cases e), fun p hp => ?_⟩
  cases hp
  refine ⟨fun _ => rfl, fun k hk => ⟨.inr ⟨hb, hgl⟩, ?_⟩⟩
  have hk1 : k < H.length := by omega
  have hc : ∀ i, i < 3 → w.cell? ⟨g, 0 + k * 3 + i, none⟩ = (H[k]).cells[i]? := fun i hi => by
    rw [Nat.zero_add, hown0.cellAt (k * 3 + i) (by omega), rawH_get H k i hi, List.getElem?_eq_getElem hk1]; rfl
  obtain ⟨e1, e2, e3⟩ := hH k hk1 hk
  obtain ⟨d1, d2⟩ := h64 k hk
  have c0 := hc 0 (by omega)
  have c1 := hc 1 (by omega)
  have c2 := hc 2 (by omega)
  simp only [EH.cells, List.getElem?_cons_zero, List.getElem?_cons_succ] at c0 c1 c2
  rw [e1] at c0
  rw [e2] at c1
  exact ⟨d1, d2, c0, c1, _, _, _, c2, e3.more fun q hq => .inl hq⟩
theorem EsF.h64 {F : Nat → Prop} {w : World} {a : Option Addr} {n c : Nat} {l : List Ent} (h : EsF F w a n c l) : ∀ k, (hk : k < l.length) → In64 l[k].i ∧ In64 l[k].t := by
  intro k hk
  obtain ⟨b, o, -, -, -, _, he⟩ := h.at_ (k := k) (by have := h.1; omega)
  exact ⟨he.1, he.2.1⟩
end Go.Proofs.YtikjckdoldiddaaGreatDoor

/- Slices of entries. -/
namespace Go.Proofs.YtikjckdoldiddaaGreatDoor
open Go.RowKit Go.Maps
set_option linter.unusedVariables false
set_option linter.unusedSimpArgs false

theorem elem_en (W : World) : (sizeOf (Tryz.prog.elem 40)).run Tryz.prog W = .ok 3 W := by kernel_rfl
theorem under_en : Tryz.prog.underlying 40 = some (.slice (Tryz.prog.elem 40)) := by kernel_rfl
theorem ecut {F : Nat → Prop} {w : World} {a : Option Addr} {n c : Nat} {d : List Ent} (h : EsF F w a n c d) {l u m : Nat} (hlu : l ≤ u) (hu : u ≤ n) (hm : u ≤ m) (hmc : m ≤ c) :
    EsF F w (if m = l then a else a.map (·.add (l * 3))) (u - l) (m - l) ((d.take u).drop l) := by
  obtain ⟨h1, h2, h3, h4, h5⟩ := h
  have hlen : ((d.take u).drop l).length = u - l := by simp; omega
  refine ⟨hlen.symm, by omega, ⟨by omega, by omega⟩, ?_, ?_⟩
  · intro e
    split at e
    · omega
    cases a with
    | none => have := h4 rfl; omega
    | some p => cases e
  intro p hp
  split at hp
  · rename_i e
    refine ⟨fun hc => by omega, fun k hk => ?_⟩
    rw [hlen] at hk; omega
  cases a with
  | none => cases hp
  | some q =>
    obtain ⟨h6, h7⟩ := h5 q rfl
    obtain ⟨qb, qo, qs⟩ := q
    obtain rfl : qs = none := h6 (by omega)
    have hadd : (⟨qb, qo, none⟩ : Addr).add (l * 3) = ⟨qb, qo + l * 3, none⟩ := by
      unfold Addr.add
      split
      · rename_i e; rw [e]; rfl
      rfl
    rw [Option.map_some, hadd] at hp
    cases hp
    refine ⟨fun hc => rfl, fun k hk => ?_⟩
    rw [hlen] at hk
    have h8 := h7 (l + k) (by omega)
    refine ⟨h8.1, ?_⟩
    have e : ((d.take u).drop l)[k]'(by omega) = d[l + k]'(by omega) := by simp
    rw [e]
    have e2 : qo + l * 3 + k * 3 = qo + (l + k) * 3 := by omega
    show EnF F w qb (qo + l * 3 + k * 3) _
    rw [e2]
    exact h8.2
theorem ecut_l {F : Nat → Prop} {w : World} {a : Option Addr} {n c : Nat} {d : List Ent} (h : EsF F w a n c d) (l : Int) (h0 : 0 ≤ l) (h1 : l ≤ n) :
    ∃ a' m k, (∀ W, (Instr.slice 40 (.slice a n c) (some (.int .i64 l)) none none).run Tryz.prog W = .ok (.slice a' m k) W) ∧
      (∀ W, (Instr.sliceAt 40 (.slice a n c) (some (.int .i64 l)) none none).run Tryz.prog W = .ok (.slice a' m k) W) ∧ EsF F w a' m k (d.drop l.toNat) := by
  have hr : ∀ W, (Instr.slice 40 (.slice a n c) (some (.int .i64 l)) none none).run Tryz.prog W = .ok (sliced a l.toNat n c 3) W := fun W => by
    rw [run_slice_l W 40 a n c under_en .i64 l h0 h1, elem_en]
    rfl
  have hc := ecut h (l := l.toNat) (u := n) (m := c) (by omega) (Nat.le_refl _) h.2.1 (Nat.le_refl _)
  rw [h.1, List.take_length] at hc
  rw [h.1] at hr
  refine ⟨_, _, _, fun W => by rw [h.1]; exact hr W, fun W => ?_, by rw [← h.1] at hc; rw [← h.1]; exact hc⟩
  rw [run_sliceAt_slice W 40 _ _ _ _ under_en, h.1]
  exact hr W
theorem ecut_h {F : Nat → Prop} {w : World} {a : Option Addr} {n c : Nat} {d : List Ent} (h : EsF F w a n c d) (u : Int) (h0 : 0 ≤ u) (h1 : u ≤ n) :
    ∃ a' m k, (∀ W, (Instr.slice 40 (.slice a n c) none (some (.int .i64 u)) none).run Tryz.prog W = .ok (.slice a' m k) W) ∧
      (∀ W, (Instr.sliceAt 40 (.slice a n c) none (some (.int .i64 u)) none).run Tryz.prog W = .ok (.slice a' m k) W) ∧ EsF F w a' m k (d.take u.toNat) := by
  have hnc := h.2.1
  have hr : ∀ W, (Instr.slice 40 (.slice a n c) none (some (.int .i64 u)) none).run Tryz.prog W = .ok (sliced a 0 u.toNat c 3) W := fun W => by
    rw [run_slice_h W 40 a n c under_en .i64 u h0 (by omega), elem_en]
    rfl
  have hc := ecut h (l := 0) (u := u.toNat) (m := c) (by omega) (by omega) (by omega) (Nat.le_refl _)
  rw [List.drop_zero] at hc
  refine ⟨_, _, _, hr, fun W => ?_, hc⟩
  rw [run_sliceAt_slice W 40 _ _ _ _ under_en]
  exact hr W
theorem ecut_hm {F : Nat → Prop} {w : World} {a : Option Addr} {n c : Nat} {d : List Ent} (h : EsF F w a n c d) (u : Int) (h0 : 0 ≤ u) (h1 : u ≤ n) :
    ∃ a' m k, (∀ W, (Instr.slice 40 (.slice a n c) none (some (.int .i64 u)) (some (.int .i64 u))).run Tryz.prog W = .ok (.slice a' m k) W) ∧
      (∀ W, (Instr.sliceAt 40 (.slice a n c) none (some (.int .i64 u)) (some (.int .i64 u))).run Tryz.prog W = .ok (.slice a' m k) W) ∧ EsF F w a' m k (d.take u.toNat) := by
  have hnc := h.2.1
  have hr : ∀ W, (Instr.slice 40 (.slice a n c) none (some (.int .i64 u)) (some (.int .i64 u))).run Tryz.prog W = .ok (sliced a 0 u.toNat u.toNat 3) W := fun W => by
    rw [run_slice_hm W 40 a n c under_en .i64 .i64 u u h0 (Int.le_refl _) (by omega), elem_en]
    rfl
  have hc := ecut h (l := 0) (u := u.toNat) (m := u.toNat) (by omega) (by omega) (by omega) (by omega)
  rw [List.drop_zero] at hc
  refine ⟨_, _, _, hr, fun W => ?_, hc⟩
  rw [run_sliceAt_slice W 40 _ _ _ _ under_en]
  exact hr W
end Go.Proofs.YtikjckdoldiddaaGreatDoor

/- A row of entries of the call's own that grows entry by entry. -/
namespace Go.Proofs.YtikjckdoldiddaaGreatDoor
open Go.RowKit Go.Maps
set_option linter.unusedVariables false
set_option linter.unusedSimpArgs false

/-- Entries in a row of the call's own (blocks from B on), their bytes in other blocks, which meet F. -/
def Off (F : Nat → Prop) (v : Value) (q : Nat) : Prop := F q ∧ v.ownBlock ≠ some q
def RowE (F : Nat → Prop) (B : Nat) (w : World) (v : Value) (l : List Ent) : Prop :=
  ∃ H : List EH, H.length = l.length ∧ w.ownsRow B 46 3 v H.length (rawH H) ∧
    (∀ k (h1 : k < H.length) (h2 : k < l.length), H[k].i = l[k].i ∧ H[k].t = l[k].t ∧ ByF (Off F v) w H[k].a H[k].n H[k].c l[k].d) ∧ ∀ k, (h : k < l.length) → In64 l[k].i ∧ In64 l[k].t
theorem RowE.slice_ {F : Nat → Prop} {B : Nat} {w : World} {v : Value} {l : List Ent} (h : RowE F B w v l) : ∃ a c, v = .slice a l.length c := by
  obtain ⟨H, h1, h2, -⟩ := h
  rcases h2.2 with ⟨e1, e2⟩ | ⟨g, c, cur, e1, -⟩
  · exact ⟨_, _, by rw [e1, ← h1, e2]⟩
  exact ⟨_, _, by rw [e1, h1]⟩
theorem RowE.at_ {F : Nat → Prop} {B : Nat} {w : World} {v : Value} {l : List Ent} (h : RowE F B w v l) : ∀ q, v.ownBlock = some q → B ≤ q ∧ q < w.heap.size := by
  obtain ⟨H, h1, h2, -⟩ := h
  exact h2.lt
theorem RowE.es {F : Nat → Prop} {B : Nat} {w : World} {a : Option Addr} {n c : Nat} {l : List Ent} (h : RowE F B w (.slice a n c) l) (hm : l.length * 40 ≤ 140737488351232) :
    EsF (fun q => F q ∨ (B ≤ q ∧ q < w.heap.size)) w a n c l := by
  obtain ⟨H, h1, h2, h3, h4⟩ := h
  obtain ⟨a', c', e, he⟩ := es_back (F := F) h2 h1 (fun k k1 k2 => ⟨(h3 k k1 k2).1, (h3 k k1 k2).2.1, (h3 k k1 k2).2.2.more fun q hq => hq.1⟩) h4 hm
  injection e with e1 e2 e3
  subst e1; subst e2; subst e3
  exact he
theorem RowE.keep {F G : Nat → Prop} {B : Nat} {w w' : World} {v : Value} {l : List Ent} (h : RowE F B w v l) (hB : ∀ q, B ≤ q → q < w.heap.size → w'.heap[q]? = w.heap[q]?) (hF : ∀ k, F k → k < w.heap.size → G k ∧ w'.heap[k]? = w.heap[k]?) : RowE G B w' v l := by
  obtain ⟨H, h1, h2, h3, h4⟩ := h
  exact ⟨H, h1, own_keep h2 fun q hq => hB q (h2.lt q hq).1 (h2.lt q hq).2, fun k k1 k2 => ⟨(h3 k k1 k2).1, (h3 k k1 k2).2.1, (h3 k k1 k2).2.2.keep fun q hq hl => ⟨⟨(hF q hq.1 hl).1, hq.2⟩, (hF q hq.1 hl).2⟩⟩, h4⟩
theorem RowE.ext {F : Nat → Prop} {B : Nat} {w w' : World} {v : Value} {l : List Ent} (h : RowE F B w v l) (hx : Ext w w') : RowE F B w' v l := h.keep (fun q _ hq => hx.block q hq) fun k hk hq => ⟨hk, hx.block k hq⟩
theorem RowE.more {F G : Nat → Prop} {B : Nat} {w : World} {v : Value} {l : List Ent} (h : RowE F B w v l) (hF : ∀ k, F k → G k) : RowE G B w v l := h.keep (fun _ _ _ => rfl) fun k hk _ => ⟨hF k hk, rfl⟩
/-- A clone of entries. -/
theorem cloneE_row {F : Nat → Prop} {w : World} {a : Option Addr} {n c : Nat} {l : List Ent} (h : EsF F w a n c l) :
    Calls Tryz.prog 52 #[.slice a n c] w fun e w' => ∃ v, e = .returned v ∧ RowE (fun q => F q ∧ q < w.heap.size) w.heap.size w' v l ∧ Ext w w' := by
  obtain ⟨H, hH, hrow, hHl⟩ := h.raw
  have h64 := h.h64
  have h40 := h.2.2.1.2
  refine (cloneE_any a n c H w (by rw [hH]; exact h.1) h40 h.2.2.2.1 hrow).mono ?_
  rintro e w' ⟨v, he, ho, hx⟩
  refine ⟨v, he, ⟨H, hH, ho, fun k k1 k2 => ⟨(hHl k k1 k2).1, (hHl k k1 k2).2.1, (hHl k k1 k2).2.2.keep fun q hq hl => ⟨⟨⟨hq, hl⟩, fun e => ?_⟩, hx.block q hl⟩⟩, h64⟩, hx⟩
  have := (ho.lt q e).1
  omega
/-- One entry behind a row. -/
theorem wpList_appE {w : World} {ops : Array Oper} {rest : List Oper} {o : Oper} {a : Act} {Q : Exit → Act → World → Prop} (hgd : o.guard = none) (s x : Operand)
    (ho : o.op = .call { callee := .builtin .append, args := #[s, x], argTypes := #[40, 40] })
    (F : Nat → Prop) (B : Nat) (v : Value) (l : List Ent) (hs : a.eval s = v) (hown : RowE F B w v l) (g : Nat) (hx : a.eval x = .slice (some ⟨g, 0, none⟩) 1 1) (y : EH) (d : By)
    (hc : RowAt w (some ⟨g, 0, none⟩) 1 3 [.int .i64 y.i, .int .i64 y.t, .slice y.a y.n y.c]) (hy : ByF (Off F v) w y.a y.n y.c d) (h64 : In64 y.i ∧ In64 y.t) (hlen : l.length ≤ 1000000000000) (hB : B ≤ w.heap.size)
    (h : ∀ v' w', RowE F B w' v' (l ++ [⟨y.i, y.t, d⟩]) → Below B w w' → wpList Tryz.prog ops Q rest (a.put o.dst v') w') : wpList Tryz.prog ops Q (o :: rest) a w := by
  obtain ⟨H, h1, h2, h3, h4⟩ := hown
  obtain ⟨i, hi, hz, hz1, hz2⟩ := info_parts info_ent
  refine wpList_append_own_at w hgd s x 40 ho B 46 i (.agg #[.int .i64 0, .int .i64 0, .slice none 0 0]) 3 40 Tryz.underlying40 hi hz hz1 hz2 rfl (by decide) v H.length (rawH H) hs h2
    ⟨g, 0, none⟩ 1 1 [.int .i64 y.i, .int .i64 y.t, .slice y.a y.n y.c] hx hc.1 (hc.2.2 _ rfl) (wthree _ _ _ _ _) (by unfold maxLen; omega) (by omega) hB fun v' w' q1 q2 q3 q4 => ?_
  have hbl : Below B w w' := (Below.refl _ _).grown q2 hB fun q hq => (h2.lt q hq).1
  have hk : ∀ q, Off F v q → q < w.heap.size → Off F v' q ∧ w'.heap[q]? = w.heap[q]? := fun q hq hl => ⟨⟨hq.1, fun e => by
    rcases q4 with q4 | q4
    · rw [q4] at e; exact hq.2 e
    rw [q4] at e; injection e with e; omega⟩, q2.block q hl fun e => hq.2 e.symm⟩
  refine h v' w' ⟨H ++ [y], by rw [List.length_append, List.length_append, h1]; rfl, by rw [List.length_append, rawH_snoc]; exact q1, fun j j1 j2 => ?_, fun j hj => ?_⟩ hbl
  · rw [List.length_append, List.length_cons, List.length_nil] at j1
    by_cases hj : j < H.length
    · have hj2 : j < l.length := by omega
      rw [List.getElem_append_left hj, List.getElem_append_left hj2]
      obtain ⟨e1, e2, e3⟩ := h3 j hj hj2
      exact ⟨e1, e2, e3.keep hk⟩
    obtain rfl : j = H.length := by omega
    rw [List.getElem_append_right (by omega), List.getElem_append_right (by omega)]
    simp only [Nat.sub_self, h1]
    exact ⟨rfl, rfl, hy.keep hk⟩
  rw [List.length_append, List.length_cons, List.length_nil] at hj
  by_cases hj2 : j < l.length
  · rw [List.getElem_append_left hj2]
    exact h4 j hj2
  rw [List.getElem_append_right (by omega)]
  have : j - l.length = 0 := by omega
  simp only [this]
  exact h64
end Go.Proofs.YtikjckdoldiddaaGreatDoor
