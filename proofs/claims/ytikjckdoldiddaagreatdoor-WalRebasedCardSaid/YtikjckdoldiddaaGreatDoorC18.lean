/- The walk of read. Printed by gen_wr.py. -/
import Derived.Test.YtikjckdoldiddaaGreatDoorC17
namespace Go.Proofs.YtikjckdoldiddaaGreatDoor
open Go.RowKit Go.Maps
set_option linter.unusedVariables false
set_option linter.unusedSimpArgs false
attribute [local go_sem] bmax2 bmin2 bmax_two bmin_two

theorem sumR_mem {d : DS} {l : List Nat} {n : Nat} (h : n ∈ l) : (segR d n).length ≤ sumR d l := by
  induction l with
  | nil => cases h
  | cons x r ih =>
    rw [sumR_cons]
    rcases List.mem_cons.1 h with rfl | h
    · omega
    have := ih h; omega
theorem sumR_drop (d : DS) : ∀ (l : List Nat) (k : Nat), sumR d (l.drop k) ≤ sumR d l := by
  intro l
  induction l with
  | nil => intro k; simp
  | cons x r ih =>
    intro k
    cases k with
    | zero => exact Nat.le_refl _
    | succ k => rw [List.drop_succ_cons, sumR_cons]; have := ih k; omega
theorem scanS_succ (d : DS) (l : List Nat) (k : Nat) : scanS d l (k + 1) =
    if (beginW (segR d (l.getD k 0))).2 = 0 then scanS d l k
    else if ((⟨(beginW (segR d (l.getD k 0))).1, l.getD k 0, l.getD k 0, 0⟩ : Wl).grow (segR d (l.getD k 0)) (beginW (segR d (l.getD k 0))).2).sz = (segB d (l.getD k 0)).length
      then followS d (l.drop (k + 1)) ((⟨(beginW (segR d (l.getD k 0))).1, l.getD k 0, l.getD k 0, 0⟩ : Wl).grow (segR d (l.getD k 0)) (beginW (segR d (l.getD k 0))).2)
      else (⟨(beginW (segR d (l.getD k 0))).1, l.getD k 0, l.getD k 0, 0⟩ : Wl).grow (segR d (l.getD k 0)) (beginW (segR d (l.getD k 0))).2 := rfl
set_option maxRecDepth 100000 in
set_option maxHeartbeats 8000000 in
theorem read_any {D F : Nat → Prop} {w : World} {g dg : Nat} {d : DS} {l : List Nat} (hd : DiskAt D w dg d) (hok : d.Ok) (hs : d.Segs l) (hg : ¬ D g) (hT : TabP w) (hgp : g ≠ powG) (h : LgB F w g (.pointer (some ⟨dg, 0, none⟩)) wv0 0 0 0) (hF : ¬ F g) :
    Calls Tryz.prog 56 #[.pointer (some ⟨g, 0, none⟩)] w (fun e w' => e = .returned (.tuple #[]) ∧ LgPost F g (.pointer (some ⟨dg, 0, none⟩)) (readS d l) w w') := by
  have HD := hid hd
  have HOK := hid hok
  have HNM := hid hs.num
  have HSUM := hid hs.sum
  have hlen : l.length ≤ 4096 := hs.many
  have HG := hid hg
  have HT := hid hT
  have HGP := hid hgp
  have H0 := hid h
  have HFG := hid hF
  have HG0 := hid h.lt
  have HLI := hid (List_at hd hok)
  have hdl := hs.list
  have HDL := hid hdl
  have c5 := h.cells.1
  obtain ⟨R, hR⟩ : ∃ R, R = readS d l := ⟨_, rfl⟩
  rw [← hR]
  have HR := hid (show R = scanS d l l.length from hR)
  clear hd hok hs hg hT hgp h hF hdl hR
  go_enter Tryz.func56, Tryz.ntmps56
  go_wp2_with fail
  refine Calls.mono HLI.out ?_
  rintro e w1 ⟨v, rfl, hrow, hx1⟩
  rw [HDL.out, show (List.map strV (l.map fileW)) = (l.map fileW).map strV from rfl] at hrow
  obtain ⟨ra, rc, rfl, hrc, hcell⟩ := row_str hrow
  have hcell2 : ∀ k (hk : k < l.length), ∃ b, ra = some ⟨b, 0, none⟩ ∧ b < w1.heap.size ∧ w1.cell? ⟨b, k, none⟩ = some (.string ⟨(fileW l[k]).toArray⟩) := fun k hk => by
    obtain ⟨b, e1, -, e3, e4⟩ := hcell k (by rw [List.length_map]; exact hk)
    refine ⟨b, e1, e3, ?_⟩
    rw [List.getElem_map] at e4
    exact e4
  have HCELL := hid hcell2
  have HX1 := hid hx1
  rw [List.length_map] at hrc ⊢
  clear hrow hx1 hcell hcell2 c5
  go_wp2
  go_loopw [2, 4, 5, 19] (fun v _ _ z wr => ∃ (k : Nat) (va : Option Addr) (vc : Nat), k ≤ l.length ∧ z = .int .i64 (k : Int) ∧ v = .slice va k vc ∧ Hid (OwnI w1.heap.size wr (.slice va k vc) (l.take k)) ∧ Hid (Ext w1 wr)) (fun _ _ _ z _ => l.length - (intOf z).toNat)
  case atStart => exact ⟨0, none, 0, Nat.zero_le _, rfl, rfl, OwnI.nil_ _ _, Below.refl _ _⟩
  obtain ⟨k, va, vc, hk, rfl, rfl, HO, HX⟩ := hrel
  by_cases hlt : k < l.length
  · obtain ⟨b, rfl, hbl, hcw⟩ := HCELL.out k hlt
    have hcr := (HX.out.cell (p := ⟨b, k, none⟩) hbl).trans hcw
    have htk := List.take_succ_eq_append_getElem hlt
    obtain ⟨n1, n2⟩ := HNM.out l[k] (List.getElem_mem _)
    obtain ⟨n, hn⟩ : ∃ n, n = l[k] := ⟨_, rfl⟩
    rw [← hn] at hcr htk n1 n2
    have HNU := hid (fun W (hW : Ext w W) => numberW_any (HT.out.ext hW) n1 n2)
    have htl : (l.take k).length = k := by rw [List.length_take]; omega
    have HTK := hid (And.intro htk htl)
    generalize fileW n = f at *
    have hn0 : (0 : Int) < (n : Int) := by omega
    clear htk htl hcw hbl hn n2
    go_wp2_with fail
    refine Calls.mono (HNU.out wr (HX1.out.trans' HX.out)) ?_
    rintro e w2 ⟨rfl, hx2⟩
    have HX2 := hid (HX.out.trans' hx2)
    have hx3 := ext_alloc w2 (.cells #[.int .i64 (n : Int)] 3)
    have HX3 := hid (HX2.out.trans' hx3)
    have HO3 := hid (show OwnI w1.heap.size (w2.alloc (.cells #[.int .i64 (n : Int)] 3)) (.slice va k vc) (l.take k) from (HO.out.ext hx2).ext hx3)
    have HCC := hid (show (w2.alloc (.cells #[.int .i64 (n : Int)] 3)).cell? ⟨w2.heap.size, 0, none⟩ = some (numV n) by unfold World.cell?; rw [heap_alloc_new]; rfl)
    clear hx2 hx3 HO HNU
    go_wp2_with (at_builtin; refine wpList_appI rfl (.tmp 27) (.tmp 29) rfl w1.heap.size _ (l.take k) rfl HO3.out w2.heap.size rfl n HCC.out (by rw [List.length_take]; omega) HX3.out.size ?_; intro v5 w5 hown5 hx5; rw [← HTK.out.1] at hown5; have HX5 := hid (HX3.out.trans hx5); have HO5 := hid hown5; clear hown5 hx5)
    obtain ⟨va5, vc5, e5⟩ := HO5.out.slice_
    rw [List.length_take, Nat.min_eq_left (by omega)] at e5
    subst e5
    go_wp2
    go_roundw
    case rel => exact ⟨k + 1, va5, vc5, by omega, by go_num, rfl, HO5.out, HX5.out⟩
    case measure => simp [intOf]; omega
  have hkl : k = l.length := by omega
  subst hkl
  have ho := HO.out
  rw [List.take_length] at ho
  have HIS := hid (ho.is (by omega) fun x hx => by have := HNM.out x hx; omega)
  have HX1r := hid (HX1.out.trans' HX.out)
  have HDr := hid (fun W (hW : Ext wr W) => HD.out.below (HX1r.out.trans' hW))
  have HTr := hid (fun W (hW : Ext wr W) => HT.out.ext (HX1r.out.trans' hW))
  have HL0 := hid (H0.out.below HX1r.out)
  have HGr := hid (show g < w1.heap.size from Nat.lt_of_lt_of_le HG0.out HX1.out.size)
  have HZr := hid (show w1.heap.size ≤ wr.heap.size from HX.out.size)
  clear hlt ho HO hk hrc
  generalize wr = w6b at *
  go_wp2
  go_loopw [6, 7, 8, 9, 10, 11, 12] (fun z _ _ _ _ _ _ wr => ∃ (k : Nat), k ≤ l.length ∧ z = .int .i64 ((k : Int) - 1) ∧ Hid (Ext w6b wr) ∧ Hid (R = scanS d l k)) (fun z _ _ _ _ _ _ _ => (intOf z + 1).toNat)
  case atStart => exact ⟨l.length, Nat.le_refl _, by go_num, Below.refl _ _, HR.out⟩
  obtain ⟨k, hk, rfl, HXr, HRk⟩ := hrel
  cases k with
  | zero =>
    have HE := hid (show R = wl0 from HRk.out)
    clear HRk
    go_wp2
    refine bodyPost_end (results_none rfl _ _ _) rfl ?_
    refine ⟨rfl, ?_⟩
    rw [HE.out]
    exact LgPost.same H0.out (HX1r.out.trans' HXr.out)
  | succ k =>
    have hkn : ((k + 1 : Nat) : Int) - 1 = (k : Int) := by omega
    rw [hkn]
    have hk2 : k < l.length := by omega
    have hk0 : (0 : Int) ≤ (k : Int) := by omega
    obtain ⟨b, o, rfl, hbl, hjl, q, -⟩ := (HIS.out.below HXr.out).at_ (k := k) hk2
    have hjl : k < l.length := by rw [List.length_map] at hjl; exact hjl
    have hgd : l.getD k 0 = l[k] := by rw [List.getD_eq_getElem?_getD, List.getElem?_eq_getElem hjl]; rfl
    rw [List.getElem_map] at q
    have heq := HRk.out
    rw [scanS_succ, hgd] at heq
    obtain ⟨n, hne⟩ : ∃ n, n = l[k] := ⟨_, rfl⟩
    obtain ⟨n1, hln⟩ := HNM.out l[k] (List.getElem_mem hjl)
    have hmem := sumR_mem (d := d) (List.getElem_mem hjl)
    rw [← hne] at q heq hln n1 hmem
    obtain ⟨sb1, sb2, sb3⟩ := seg_bound HOK.out n
    have hRE := fun W (hW : Ext wr W) => Read_at (HDr.out W (HXr.out.trans' hW)) (fileW n) (by rw [fileW_len hln]; decide)
    have hNA := fun W (hW : Ext wr W) => nameW_any (HTr.out W (HXr.out.trans' hW)) hln
    have hrd : (d.read (fileW n)).1 = segB d n := rfl
    have hsr : segR d n = (rowsB (segB d n)).1 := rfl
    obtain ⟨f, hfe⟩ : ∃ f, f = fileW n := ⟨_, rfl⟩
    rw [← hfe] at hRE hNA hrd
    obtain ⟨B, hB⟩ : ∃ B, B = segB d n := ⟨_, rfl⟩
    rw [← hB] at hrd sb1 sb2 heq hsr
    obtain ⟨L, hL⟩ : ∃ L, L = segR d n := ⟨_, rfl⟩
    rw [← hL] at hsr sb2 sb3 heq hmem
    obtain ⟨bk1, bk2⟩ := begin_ok L
    have HRE := hid hRE
    have HNA := hid hNA
    have HRD := hid hrd
    have HSR := hid hsr
    have HSB := hid (And.intro sb1 (And.intro sb2 sb3))
    have HQ := hid heq
    have HLN := hid hln
    have HMEM := hid hmem
    have HBK1 := hid bk1
    have HBK2 := hid bk2
    have HC5 := hid (fun W (hW : Ext wr W) => (HL0.out.below (HXr.out.trans' hW)).cells.1)
    have HCN := hid (fun W (hW : Frm (fun q => q = g) wr W) => (hW.cell (p := ⟨b, o + k, none⟩) hbl (by
      have h1 := ((HIS.out.2.2.2.2.2 _ rfl).2 k (by rw [List.length_map]; exact hjl)).1
      have h2 := HGr.out
      show ¬ b = g
      have h1 : w1.heap.size ≤ b := h1
      omega)).trans q)
    clear heq hln n1 sb1 sb2 sb3 hRE hNA hrd hsr hB hL hne hfe hjl hgd hmem bk1 bk2 HRk hbl q hkn
    go_wp2
    have y0 : Ext wr wr.drew := ext_drew wr
    refine wp_region_held_drew (S := fun W => Ext wr W) (by kernel_rfl) y0 (fun hH => ?_)
    clear hH
    refine held_run (i := 0) (v := .pointer (some ⟨g, 0, none⟩)) rfl (by kernel_rfl) (by kernel_rfl) (by kernel_rfl) (fun _ _ _ h => h) (by rfl) y0 (fun W hW => ?_) ?_
    · (clear hW; go_simp)
    try simp only [Act.put, List.setIfInBounds_toArray, List.set_cons_zero, List.set_cons_succ]
    refine held_run (i := 1) (v := .pointer (some ⟨g, 0, none⟩)) rfl (by kernel_rfl) (by kernel_rfl) (by kernel_rfl) (fun _ _ _ h => h) (by rfl) y0 (fun W hW => ?_) ?_
    · (clear hW; go_simp)
    try simp only [Act.put, List.setIfInBounds_toArray, List.set_cons_zero, List.set_cons_succ]
    refine held_run (i := 2) (v := .pointer (some ⟨g, 5, none⟩)) rfl (by kernel_rfl) (by kernel_rfl) (by kernel_rfl) (fun _ _ _ h => h) (by rfl) y0 (fun W hW => ?_) ?_
    · (clear hW; go_simp)
    try simp only [Act.put, List.setIfInBounds_toArray, List.set_cons_zero, List.set_cons_succ]
    refine held_run (i := 3) (v := .pointer (some ⟨dg, 0, none⟩)) rfl (by kernel_rfl) (by kernel_rfl) (by kernel_rfl) (fun _ _ _ h => h) (by rfl) y0 (fun W hW => ?_) ?_
    · (have hc := HC5.out W hW; clear hW; go_simp)
    try simp only [Act.put, List.setIfInBounds_toArray, List.set_cons_zero, List.set_cons_succ]
    refine held_run (i := 4) (v := .slice (some ⟨b, o, none⟩) l.length vc) rfl (by kernel_rfl) (by kernel_rfl) (by kernel_rfl) (fun _ _ _ h => h) (by rfl) y0 (fun W hW => ?_) ?_
    · (clear hW; go_simp)
    try simp only [Act.put, List.setIfInBounds_toArray, List.set_cons_zero, List.set_cons_succ]
    refine held_run (i := 5) (v := .int .i64 (k : Int)) rfl (by kernel_rfl) (by kernel_rfl) (by kernel_rfl) (fun _ _ _ h => h) (by rfl) y0 (fun W hW => ?_) ?_
    · (clear hW; go_simp)
    try simp only [Act.put, List.setIfInBounds_toArray, List.set_cons_zero, List.set_cons_succ]
    refine held_run (i := 6) (v := .pointer (some ⟨b, o + k, none⟩)) rfl (by kernel_rfl) (by kernel_rfl) (by kernel_rfl) (fun _ _ _ h => h) (by rfl) y0 (fun W hW => ?_) ?_
    · (clear hW; go_simp)
    try simp only [Act.put, List.setIfInBounds_toArray, List.set_cons_zero, List.set_cons_succ]
    refine held_run (i := 7) (v := .int .i64 (n : Int)) rfl (by kernel_rfl) (by kernel_rfl) (by kernel_rfl) (fun _ _ _ h => h) (by rfl) y0 (fun W hW => ?_) ?_
    · (have hc := HCN.out W (Frm.of_ext hW _); clear hW; go_simp)
    try simp only [Act.put, List.setIfInBounds_toArray, List.set_cons_zero, List.set_cons_succ]
    refine wpAnyH_ready (rs := [8]) (by kernel_rfl) (by simp) ?_
    refine held_cons (i := 8) rfl (fun K hK => ?_)
    go_simp
    go_at_call 61
    refine Calls.mono (HNA.out _ y0) ?_
    rintro e w7 ⟨rfl, hx1⟩
    have y1 : Ext wr w7 := y0.trans' hx1
    clear hx1
    dsimp only
    refine hK.out _ _ y1 (fun hH => ?_)
    clear hK K y0 hH
    have y0 := y1
    clear y1
    try simp only [Act.put, List.setIfInBounds_toArray, List.set_cons_zero, List.set_cons_succ]
    refine wpAnyH_ready (rs := [9]) (by kernel_rfl) (by simp) ?_
    refine held_cons (i := 9) rfl (fun K hK => ?_)
    go_simp
    go_at_call 97
    refine Calls.mono (HRE.out _ y0) ?_
    rintro e w2 ⟨ba, bk, bc, rfl, hb2, hx2⟩
    have y1 : Ext wr w2 := y0.trans' hx2
    rw [HRD.out] at hb2
    have HB2 := hid hb2
    clear hx2 hb2
    dsimp only
    refine hK.out _ _ y1 (fun hH => ?_)
    clear hK K y0 hH
    have y0 := y1
    clear y1
    try simp only [Act.put, List.setIfInBounds_toArray, List.set_cons_zero, List.set_cons_succ]
    generalize (d.read f).2 = rz at *
    refine held_run (i := 10) (v := .tuple #[.slice ba bk bc, .int .i64 rz]) rfl (by kernel_rfl) (by kernel_rfl) (by kernel_rfl) (fun _ _ _ h => h) (by rfl) y0 (fun W hW => ?_) ?_
    · (clear hW; go_simp)
    try simp only [Act.put, List.setIfInBounds_toArray, List.set_cons_zero, List.set_cons_succ]
    refine held_run (i := 11) (v := .slice ba bk bc) rfl (by kernel_rfl) (by kernel_rfl) (by kernel_rfl) (fun _ _ _ h => h) (by rfl) y0 (fun W hW => ?_) ?_
    · (clear hW; go_simp)
    try simp only [Act.put, List.setIfInBounds_toArray, List.set_cons_zero, List.set_cons_succ]
    refine held_run (i := 12) (v := .int .i64 rz) rfl (by kernel_rfl) (by kernel_rfl) (by kernel_rfl) (fun _ _ _ h => h) (by rfl) y0 (fun W hW => ?_) ?_
    · (clear hW; go_simp)
    try simp only [Act.put, List.setIfInBounds_toArray, List.set_cons_zero, List.set_cons_succ]
    refine held_run (i := 13) (v := .slice ba bk bc) rfl (by kernel_rfl) (by kernel_rfl) (by kernel_rfl) (fun _ _ _ h => h) (by rfl) y0 (fun W hW => ?_) ?_
    · (clear hW; go_simp)
    try simp only [Act.put, List.setIfInBounds_toArray, List.set_cons_zero, List.set_cons_succ]
    refine held_run (i := 14) (v := .int .i64 rz) rfl (by kernel_rfl) (by kernel_rfl) (by kernel_rfl) (fun _ _ _ h => h) (by rfl) y0 (fun W hW => ?_) ?_
    · (clear hW; go_simp)
    try simp only [Act.put, List.setIfInBounds_toArray, List.set_cons_zero, List.set_cons_succ]
    refine wpAnyH_done (by kernel_rfl) ?_ _
    have HX2 := hid y0
    clear y0
    have HROW := hid (RowsN_any HB2.out (by have := HSB.out.1; have := HB2.out.1; omega))
    go_wp2_with fail
    refine Calls.mono HROW.out ?_
    rintro e w3 ⟨sa, sn, sc, rfl, ho3, hx3⟩
    rw [← HSR.out] at ho3
    have HBS := hid (ho3.bs (by have := HSB.out.2.1; have := HSB.out.1; omega))
    have HX3 := hid (HX2.out.trans' hx3)
    have HZ2 := hid (show wr.heap.size ≤ w2.heap.size from HX2.out.size)
    have hrn : L.length = sn := HBS.out.1.symm
    have hbk : bk = B.length := HB2.out.1
    have HRN := hid (And.intro hrn hbk)
    have HBG := hid (begin_any HBS.out (by have := HSB.out.2.1; have := HSB.out.1; omega) (fun r hr => by have := HSB.out.2.2 r hr; omega))
    obtain ⟨⟨v0, k0⟩, hbv⟩ : ∃ r, r = beginW L := ⟨_, rfl⟩
    have hbv1 := HBK1.out
    have hbv2 := HBK2.out
    have hq := HQ.out
    rw [← hbv] at hbv1 hbv2 hq HBG
    dsimp only at hbv1 hbv2 hq
    have HBV2 := hid hbv2
    have HQ1 := hid hq
    clear ho3 hx3 hrn hbk HROW HQ HBK1 HBK2 hbv hbv2 hq
    go_wp2_with fail
    refine Calls.mono HBG.out ?_
    rintro e w4 ⟨la, ln, lc, rfl, hes, hx4⟩
    dsimp only at *
    have hx5 := ext_alloc w4 (.cells #[.int .i64 v0.ht, .int .i64 v0.hv, .int .i64 v0.i, .int .i64 v0.t, .slice la ln lc] 62)
    have hn5 := heap_alloc_new w4 (.cells #[.int .i64 v0.ht, .int .i64 v0.hv, .int .i64 v0.i, .int .i64 v0.t, .slice la ln lc] 62)
    have hz5 : (w4.alloc (.cells #[.int .i64 v0.ht, .int .i64 v0.hv, .int .i64 v0.i, .int .i64 v0.t, .slice la ln lc] 62)).heap.size = w4.heap.size + 1 := World.size_alloc ..
    have HX4 := hid (HX3.out.trans' hx4)
    have HX5 := hid (HX4.out.trans' hx5)
    have HX45 := hid hx5
    have HX35 := hid (hx4.trans' hx5)
    have HZ4 := hid (show w3.heap.size ≤ w4.heap.size from hx4.size)
    have HES := hid hes
    have HN5 := hid hn5
    have HZ5 := hid hz5
    clear hes hx4 hx5 hn5 hz5 HBG
    by_cases hk00 : k0 = 0
    · subst hk00
      have HE := hid (show R = scanS d l k by rw [HQ1.out, if_pos rfl])
      go_wp2
      go_roundw
      case rel => exact ⟨k, by omega, by go_num, HXr.out.trans' HX5.out, HE.out⟩
      case measure => have e : IntKind.i64.wrap ((k : Int) - 1) = (k : Int) - 1 := IntWalk.i64_in _ ⟨by omega, by omega⟩
                      simp only [intOf]; first | omega | (rw [e]; omega) | (simp; omega)
    have hkb : ((k0 : Int) == 0) = false := by simp; omega
    have hq := HQ1.out
    rw [if_neg hk00] at hq
    have HQ2 := hid hq
    clear hq HQ1 hk00
    go_wp2
    generalize w4.alloc (.cells #[.int .i64 v0.ht, .int .i64 v0.hv, .int .i64 v0.i, .int .i64 v0.t, .slice la ln lc] 62) = w5 at *
    obtain ⟨p, hp⟩ : ∃ p, p = w4.heap.size := ⟨_, rfl⟩
    rw [← hp] at HN5 HZ5 ⊢
    have HGP4 := hid (show g < p ∧ g < w4.heap.size from ⟨by have := HGr.out; have := HZr.out; have := HX4.out.size; have := HXr.out.size; omega, by have := HGr.out; have := HZr.out; have := HX4.out.size; have := HXr.out.size; omega⟩)
    have HPE := hid hp
    have HCV := hid (fun W (hW : Frm (fun q => q = g) w5 W) => vcells5 ((hW.block p (by have := HZ5.out; omega) (show ¬ p = g by have := HGP4.out.1; omega)).trans HN5.out))
    have HCN5 := hid (fun W (hW : Frm (fun q => q = g) w5 W) => HCN.out W (Frm.after_ext HX5.out hW))
    clear hp
    have y0 : Frm (fun q => q = g) w5 w5.drew := Frm.of_ext (ext_drew w5) _
    have HXD := hid (ext_drew w5)
    refine wp_region_held_drew (S := fun W => Frm (fun q => q = g) w5 W) (by kernel_rfl) y0 (fun hH => ?_)
    clear hH
    generalize w5.drew = wd at *
    refine held_run (i := 0) (v := .pointer (some ⟨g, 0, none⟩)) rfl (by kernel_rfl) (by kernel_rfl) (by kernel_rfl) (fun _ _ _ h => h) (by rfl) y0 (fun W hW => ?_) ?_
    · (clear hW; go_simp)
    try simp only [Act.put, List.setIfInBounds_toArray, List.set_cons_zero, List.set_cons_succ]
    refine held_run (i := 1) (v := .pointer (some ⟨g, 0, none⟩)) rfl (by kernel_rfl) (by kernel_rfl) (by kernel_rfl) (fun _ _ _ h => h) (by rfl) y0 (fun W hW => ?_) ?_
    · (clear hW; go_simp)
    try simp only [Act.put, List.setIfInBounds_toArray, List.set_cons_zero, List.set_cons_succ]
    refine held_run (i := 2) (v := .pointer (some ⟨g, 0, none⟩)) rfl (by kernel_rfl) (by kernel_rfl) (by kernel_rfl) (fun _ _ _ h => h) (by rfl) y0 (fun W hW => ?_) ?_
    · (clear hW; go_simp)
    try simp only [Act.put, List.setIfInBounds_toArray, List.set_cons_zero, List.set_cons_succ]
    refine held_run (i := 3) (v := .agg #[.int .i64 v0.ht, .int .i64 v0.hv, .int .i64 v0.i, .int .i64 v0.t, .slice la ln lc]) rfl (by kernel_rfl) (by kernel_rfl) (by kernel_rfl) (fun _ _ _ h => h) (by rfl) y0 (fun W hW => ?_) ?_
    · (obtain ⟨⟨x0, x1, x2, x3, x4⟩, -, -⟩ := HCV.out W hW; clear hW; go_simp)
    try simp only [Act.put, List.setIfInBounds_toArray, List.set_cons_zero, List.set_cons_succ]
    refine held_run (i := 4) (v := .slice (some ⟨b, o, none⟩) l.length vc) rfl (by kernel_rfl) (by kernel_rfl) (by kernel_rfl) (fun _ _ _ h => h) (by rfl) y0 (fun W hW => ?_) ?_
    · (clear hW; go_simp)
    try simp only [Act.put, List.setIfInBounds_toArray, List.set_cons_zero, List.set_cons_succ]
    refine held_run (i := 5) (v := .int .i64 (k : Int)) rfl (by kernel_rfl) (by kernel_rfl) (by kernel_rfl) (fun _ _ _ h => h) (by rfl) y0 (fun W hW => ?_) ?_
    · (clear hW; go_simp)
    try simp only [Act.put, List.setIfInBounds_toArray, List.set_cons_zero, List.set_cons_succ]
    refine held_run (i := 6) (v := .pointer (some ⟨b, o + k, none⟩)) rfl (by kernel_rfl) (by kernel_rfl) (by kernel_rfl) (fun _ _ _ h => h) (by rfl) y0 (fun W hW => ?_) ?_
    · (clear hW; go_simp)
    try simp only [Act.put, List.setIfInBounds_toArray, List.set_cons_zero, List.set_cons_succ]
    refine held_run (i := 7) (v := .int .i64 (n : Int)) rfl (by kernel_rfl) (by kernel_rfl) (by kernel_rfl) (fun _ _ _ h => h) (by rfl) y0 (fun W hW => ?_) ?_
    · (have hc := HCN5.out W hW; clear hW; go_simp)
    try simp only [Act.put, List.setIfInBounds_toArray, List.set_cons_zero, List.set_cons_succ]
    refine held_run (i := 8) (v := .slice (some ⟨b, o, none⟩) l.length vc) rfl (by kernel_rfl) (by kernel_rfl) (by kernel_rfl) (fun _ _ _ h => h) (by rfl) y0 (fun W hW => ?_) ?_
    · (clear hW; go_simp)
    try simp only [Act.put, List.setIfInBounds_toArray, List.set_cons_zero, List.set_cons_succ]
    refine held_run (i := 9) (v := .int .i64 (k : Int)) rfl (by kernel_rfl) (by kernel_rfl) (by kernel_rfl) (fun _ _ _ h => h) (by rfl) y0 (fun W hW => ?_) ?_
    · (clear hW; go_simp)
    try simp only [Act.put, List.setIfInBounds_toArray, List.set_cons_zero, List.set_cons_succ]
    refine held_run (i := 10) (v := .pointer (some ⟨b, o + k, none⟩)) rfl (by kernel_rfl) (by kernel_rfl) (by kernel_rfl) (fun _ _ _ h => h) (by rfl) y0 (fun W hW => ?_) ?_
    · (clear hW; go_simp)
    try simp only [Act.put, List.setIfInBounds_toArray, List.set_cons_zero, List.set_cons_succ]
    refine held_run (i := 11) (v := .int .i64 (n : Int)) rfl (by kernel_rfl) (by kernel_rfl) (by kernel_rfl) (fun _ _ _ h => h) (by rfl) y0 (fun W hW => ?_) ?_
    · (have hc := HCN5.out W hW; clear hW; go_simp)
    try simp only [Act.put, List.setIfInBounds_toArray, List.set_cons_zero, List.set_cons_succ]
    refine held_run (i := 12) (v := .pointer (some ⟨g, 0, none⟩)) rfl (by kernel_rfl) (by kernel_rfl) (by kernel_rfl) (fun _ _ _ h => h) (by rfl) y0 (fun W hW => ?_) ?_
    · (clear hW; go_simp)
    try simp only [Act.put, List.setIfInBounds_toArray, List.set_cons_zero, List.set_cons_succ]
    refine held_run (i := 13) (v := .pointer (some ⟨g, 0, none⟩)) rfl (by kernel_rfl) (by kernel_rfl) (by kernel_rfl) (fun _ _ _ h => h) (by rfl) y0 (fun W hW => ?_) ?_
    · (clear hW; go_simp)
    try simp only [Act.put, List.setIfInBounds_toArray, List.set_cons_zero, List.set_cons_succ]
    have HL5 := hid (H0.out.below (HX1r.out.trans' (HXr.out.trans' HX5.out)))
    have HGZ := hid (show g < w3.heap.size ∧ w.heap.size ≤ w3.heap.size ∧ w3.heap.size ≤ w4.heap.size ∧ w4.heap.size ≤ w5.heap.size ∧ g < w2.heap.size ∧ g < w.heap.size from by
      have h1 := HG0.out
      have h2 := HX1r.out.size
      have h3 := HXr.out.size
      have h4 := HX3.out.size
      have h5 := HZ4.out
      have h6 := HX45.out.size
      have h7 := HZ2.out
      refine ⟨?_, ?_, ?_, ?_, ?_, ?_⟩ <;> omega)
    refine wpAnyH_ready (rs := [14]) (by kernel_rfl) (by simp) ?_
    refine held_cons (i := 14) rfl (fun K hK => ?_)
    have hl5 := HL5.out.below HXD.out
    obtain ⟨z0, z1, z2, z3, z4, hobj⟩ := hl5.nine
    obtain ⟨⟨c0, c1, c2, c3, c4, -⟩, cfz, cl⟩ := cells9 hobj
    have f0 := cfz 0
    have f1 := cfz 1
    have f2 := cfz 2
    have f3 := cfz 3
    have f4 := cfz 4
    have HS1 := hid (show SetG g 64 wd (((((wd.setCell ⟨g, 0, none⟩ (.int .i64 v0.ht)).setCell ⟨g, 1, none⟩ (.int .i64 v0.hv)).setCell ⟨g, 2, none⟩ (.int .i64 v0.i)).setCell ⟨g, 3, none⟩ (.int .i64 v0.t)).setCell ⟨g, 4, none⟩ (.slice la ln lc)) #[.int .i64 v0.ht, .int .i64 v0.hv, .int .i64 v0.i, .int .i64 v0.t, .slice la ln lc, .pointer (some ⟨dg, 0, none⟩), .int .i64 0, .int .i64 0, .int .i64 0] from nine_set hobj v0 la ln lc)
    have y1 : Frm (fun q => q = g) w5 (((((wd.setCell ⟨g, 0, none⟩ (.int .i64 v0.ht)).setCell ⟨g, 1, none⟩ (.int .i64 v0.hv)).setCell ⟨g, 2, none⟩ (.int .i64 v0.i)).setCell ⟨g, 3, none⟩ (.int .i64 v0.t)).setCell ⟨g, 4, none⟩ (.slice la ln lc)) := y0.trans HS1.out.frm fun q hq => .inl hq
    clear hobj cfz hl5
    go_simp
    clear c0 c1 c2 c3 c4 f0 f1 f2 f3 f4 cl
    refine hK.out _ _ y1 (fun hH => ?_)
    clear hK K y0 hH
    have y0 := y1
    clear y1
    try simp only [Act.put, List.setIfInBounds_toArray, List.set_cons_zero, List.set_cons_succ]
    generalize ((((wd.setCell ⟨g, 0, none⟩ (.int .i64 v0.ht)).setCell ⟨g, 1, none⟩ (.int .i64 v0.hv)).setCell ⟨g, 2, none⟩ (.int .i64 v0.i)).setCell ⟨g, 3, none⟩ (.int .i64 v0.t)).setCell ⟨g, 4, none⟩ (.slice la ln lc) = w6 at *
    have HL6 := hid (show LgB (fun q => F q ∨ (w.heap.size ≤ q ∧ q < w4.heap.size)) w6 g (.pointer (some ⟨dg, 0, none⟩)) v0 0 0 0 from ⟨la, ln, lc, HS1.out.obj, ((HES.out.below HX45.out).below HXD.out).keep fun q hq hl => ⟨.inr ⟨by have := HGZ.out; have := hq.1; omega, hq.2⟩, HS1.out.frm.block q hl (by show ¬ q = g; have := HGZ.out; have := hq.1; omega)⟩⟩)
    have HF6 := hid (show ¬ (F g ∨ (w.heap.size ≤ g ∧ g < w4.heap.size)) from fun h => by rcases h with h | h; exact HFG.out h; have := HGZ.out; omega)
    have HL7 := hid ((lg_set HL6.out HF6.out).1 n).1
    have HS7 := hid (lg_set HL6.out HF6.out).2
    clear HS1
    refine held_run (i := 15) (v := .pointer (some ⟨g, 0, none⟩)) rfl (by kernel_rfl) (by kernel_rfl) (by kernel_rfl) (fun _ _ _ h => h) (by rfl) y0 (fun W hW => ?_) ?_
    · (clear hW; go_simp)
    try simp only [Act.put, List.setIfInBounds_toArray, List.set_cons_zero, List.set_cons_succ]
    refine held_run (i := 16) (v := .pointer (some ⟨g, 6, none⟩)) rfl (by kernel_rfl) (by kernel_rfl) (by kernel_rfl) (fun _ _ _ h => h) (by rfl) y0 (fun W hW => ?_) ?_
    · (clear hW; go_simp)
    try simp only [Act.put, List.setIfInBounds_toArray, List.set_cons_zero, List.set_cons_succ]
    refine wpAnyH_ready (rs := [17]) (by kernel_rfl) (by simp) ?_
    refine held_cons (i := 17) rfl (fun K hK => ?_)
    obtain ⟨-, c6, -, -, cfz⟩ := HL6.out.cells
    have f6 := cfz 6
    have cl := HL6.out.lt
    have y1 : Frm (fun q => q = g) w5 (w6.setCell ⟨g, 6, none⟩ (.int .i64 (n : Int))) := y0.trans (HS7.out 6 _).1 fun q hq => .inl hq
    clear cfz
    go_simp
    clear c6 f6 cl
    refine hK.out _ _ y1 (fun hH => ?_)
    clear hK K y0 hH
    have y0 := y1
    clear y1
    try simp only [Act.put, List.setIfInBounds_toArray, List.set_cons_zero, List.set_cons_succ]
    generalize w6.setCell ⟨g, 6, none⟩ (.int .i64 (n : Int)) = w7 at *
    have HL8 := hid ((lg_set HL7.out HF6.out).1 n).2.1
    have HS8 := hid (lg_set HL7.out HF6.out).2
    clear HS7
    refine held_run (i := 18) (v := .pointer (some ⟨g, 0, none⟩)) rfl (by kernel_rfl) (by kernel_rfl) (by kernel_rfl) (fun _ _ _ h => h) (by rfl) y0 (fun W hW => ?_) ?_
    · (clear hW; go_simp)
    try simp only [Act.put, List.setIfInBounds_toArray, List.set_cons_zero, List.set_cons_succ]
    refine held_run (i := 19) (v := .pointer (some ⟨g, 7, none⟩)) rfl (by kernel_rfl) (by kernel_rfl) (by kernel_rfl) (fun _ _ _ h => h) (by rfl) y0 (fun W hW => ?_) ?_
    · (clear hW; go_simp)
    try simp only [Act.put, List.setIfInBounds_toArray, List.set_cons_zero, List.set_cons_succ]
    refine wpAnyH_ready (rs := [20]) (by kernel_rfl) (by simp) ?_
    refine held_cons (i := 20) rfl (fun K hK => ?_)
    obtain ⟨-, -, c7, -, cfz⟩ := HL7.out.cells
    have f7 := cfz 7
    have cl := HL7.out.lt
    have y1 : Frm (fun q => q = g) w5 (w7.setCell ⟨g, 7, none⟩ (.int .i64 (n : Int))) := y0.trans (HS8.out 7 _).1 fun q hq => .inl hq
    clear cfz
    go_simp
    clear c7 f7 cl
    refine hK.out _ _ y1 (fun hH => ?_)
    clear hK K y0 hH
    have y0 := y1
    clear y1
    try simp only [Act.put, List.setIfInBounds_toArray, List.set_cons_zero, List.set_cons_succ]
    generalize w7.setCell ⟨g, 7, none⟩ (.int .i64 (n : Int)) = w8 at *
    refine wpAnyH_done (by kernel_rfl) ?_ _
    have HY := hid y0
    clear y0 HS8
    have HZ8 := hid (show w5.heap.size ≤ w8.heap.size from HY.out.size)
    have HB8 := hid ((HBS.out.below HX35.out).keep (w' := w8) (G := fun q => w2.heap.size ≤ q) fun q hq hl => ⟨hq, HY.out.block q hl (by show ¬ q = g; have := HGZ.out; omega)⟩)
    have HMO := hid (more_any HL8.out HBV2.out HF6.out HB8.out (by have := HGZ.out; omega) (by have := HMEM.out; have := HSUM.out; omega) HSB.out.2.2 k0 hbv1 ba bk bc)
    have HFN := hid (more_fine (L.drop k0) v0 L.length HBV2.out)
    have hq := HQ2.out
    unfold Wl.grow at hq
    dsimp only at hq
    obtain ⟨v2, hv2⟩ : ∃ v2, v2 = (v0.more (L.drop k0)).1 := ⟨_, rfl⟩
    obtain ⟨z, hz⟩ : ∃ z, z = sizedB (L.take (k0 + (v0.more (L.drop k0)).2)) := ⟨_, rfl⟩
    rw [← hv2, ← hz] at hq HMO
    rw [← hv2] at HFN
    have HQ3 := hid hq
    clear hq hv2 hz HQ2
    go_wp2_with fail
    refine Calls.mono HMO.out ?_
    rintro e w9 ⟨rfl, hl9, hf9⟩
    have HFA := hid (show Frm (fun q => q = g) w w9 from Frm.after_ext (HX1r.out.trans' (HXr.out.trans' HX5.out)) (HY.out.trans hf9 fun q hq => .inl hq))
    have HP9 := hid (show LgPost F g (.pointer (some ⟨dg, 0, none⟩)) ⟨v2, n, n, z⟩ w w9 from ⟨hl9.keep rfl fun q hq _ => ⟨by
      have h1 := HGZ.out
      have h2 := HZ8.out
      have h3 := hf9.size
      rcases hq with (hq | hq) | hq
      · exact .inl hq
      · exact .inr ⟨hq.1, by omega⟩
      exact .inr ⟨by omega, hq.2⟩, rfl⟩, HFA.out⟩)
    have HF59 := hid (show Frm (fun q => q = g) w6b w9 from Frm.after_ext (HXr.out.trans' HX5.out) (HY.out.trans hf9 fun q hq => .inl hq))
    clear hl9 hf9
    by_cases hzB : z = B.length
    · have hdz : decide (z = bk) = true := by simp; rw [HRN.out.2]; exact hzB
      have hq := HQ3.out
      rw [if_pos hzB] at hq
      have HE := hid hq
      clear hq hzB
      have his9 := HIS.out.keep (w' := w9) (G := fun q => w1.heap.size ≤ q) fun q hq hl => ⟨hq, HF59.out.block q hl (by show ¬ q = g; have h1 := HGr.out; have hq : w1.heap.size ≤ q := hq; omega)⟩
      obtain ⟨ta, tm, tk, cut1, cut2, htl⟩ := is_tail his9 (k + 1) (by omega)
      rw [show ((k + 1 : Nat) : Int) = (k : Int) + 1 by omega] at cut1 cut2
      rw [← List.map_drop] at htl
      have HFO := hid (follow_any (N := fun q => w1.heap.size ≤ q) (HD.out.frm HFA.out fun q hq e => HG.out (by have e : q = g := e; rw [← e]; exact hq)) HOK.out HG.out (HT.out.frm HFA.out (fun e => HGP.out (by have e : powG = g := e; exact e.symm))) HGP.out HP9.out.1
        HFN.out (show ¬ (F g ∨ (w.heap.size ≤ g ∧ g < w9.heap.size)) from fun h => by rcases h with h | h; exact HFG.out h; have := HGZ.out; omega) htl (by show ¬ w1.heap.size ≤ g; have := HGr.out; omega) (fun x hx => (HNM.out x (List.mem_of_mem_drop hx)).2)
        (by have h1 := HMEM.out; have h2 := HSUM.out; have h3 := sumR_drop d l (k + 1); rw [List.length_drop]; omega) HLN.out)
      clear his9 htl
      have hk1 : IntKind.i64.wrap ((k : Int) + 1) = (k : Int) + 1 := IntWalk.i64_in _ ⟨by omega, by omega⟩
      go_wp2_with fail
      refine Calls.mono HFO.out ?_
      rintro e w10 ⟨rfl, hp10⟩
      have HP10 := hid hp10
      clear hp10
      go_wp2
      refine bodyPost_ret (results_none rfl _ _ _) rfl ?_
      refine ⟨rfl, ?_⟩
      rw [HE.out]
      exact LgPost.next HP9.out.2 (Below.refl _ _) HP10.out
    have hdz : decide (z = bk) = false := by simp; rw [HRN.out.2]; exact hzB
    have hq := HQ3.out
    rw [if_neg hzB] at hq
    have HE := hid hq
    clear hq hzB
    go_wp2
    refine bodyPost_ret (results_none rfl _ _ _) rfl ?_
    refine ⟨rfl, ?_⟩
    rw [HE.out]
    exact HP9.out
end Go.Proofs.YtikjckdoldiddaaGreatDoor

/- A log with its disk; what Open leads to. -/
namespace Go.Proofs.YtikjckdoldiddaaGreatDoor
open Go.RowKit Go.Maps
set_option linter.unusedVariables false
set_option linter.unusedSimpArgs false
attribute [local go_sem] bmax2 bmin2 bmax_two bmin_two

/-- A log and its disk. -/
structure Lo where
  s : Wl
  d : DS
def LoAt (A : Nat → Prop) (w : World) (g dg : Nat) (v : Lo) : Prop :=
  ∃ D G, DiskAt D w dg v.d ∧ LgB G w g (.pointer (some ⟨dg, 0, none⟩)) v.s.v v.s.fr v.s.tt v.s.sz ∧ (∀ q, D q → A q ∧ q ≠ g ∧ ¬ G q) ∧ (∀ q, G q → A q ∧ q ≠ g) ∧ A g ∧ ∀ q, A q → q < w.heap.size
def LoPost (A : Nat → Prop) (g dg : Nat) (r : Int × Lo) (w : World) (e : Ending) (w' : World) : Prop :=
  e = .returned (.int .i64 r.1) ∧ LoAt (Go.Proofs.YtikjckdoldiddaaGreatDoor.grow A w w') w' g dg r.2 ∧ Frm A w w'
theorem LoAt.lt {A : Nat → Prop} {w : World} {g dg : Nat} {v : Lo} (h : LoAt A w g dg v) : ∀ q, A q → q < w.heap.size := by
  obtain ⟨D, G, -, -, -, -, -, h⟩ := h; exact h
theorem LoAt.frm {A E : Nat → Prop} {w w' : World} {g dg : Nat} {v : Lo} (h : LoAt A w g dg v) (hf : Frm E w w') (hE : ∀ q, A q → ¬ E q) : LoAt A w' g dg v := by
  obtain ⟨D, G, h1, h2, h3, h4, h5, h6⟩ := h
  refine ⟨D, G, h1.frm hf fun q hq => hE q (h3 q hq).1, h2.keep (hf.block g (h6 g h5) (hE g h5)) fun k hk hl => ⟨hk, hf.block k hl (hE k (h4 k hk).1)⟩, h3, h4, h5, fun q hq => Nat.lt_of_lt_of_le (h6 q hq) hf.size⟩
theorem LoAt.below {A : Nat → Prop} {w w' : World} {g dg : Nat} {v : Lo} (h : LoAt A w g dg v) (hf : Ext w w') : LoAt A w' g dg v := h.frm (Frm.of_ext hf (fun _ => False)) fun _ _ h => h
theorem LoAt.more {A E : Nat → Prop} {w : World} {g dg : Nat} {v : Lo} (h : LoAt A w g dg v) (hE : ∀ q, A q → E q) (hl : ∀ q, E q → q < w.heap.size) : LoAt E w g dg v := by
  obtain ⟨D, G, h1, h2, h3, h4, h5, h6⟩ := h
  exact ⟨D, G, h1, h2, fun q hq => ⟨hE q (h3 q hq).1, (h3 q hq).2⟩, fun q hq => ⟨hE q (h4 q hq).1, (h4 q hq).2⟩, hE g h5, hl⟩
theorem LoAt.same {A : Nat → Prop} {w w' : World} {g dg : Nat} {v : Lo} (h : LoAt A w g dg v) (hx : Ext w w') (z : Int) : LoPost A g dg (z, v) w (.returned (.int .i64 z)) w' :=
  ⟨rfl, (h.below hx).more (fun q hq => .inl hq) (grow.lt h.lt hx.size), Frm.of_ext hx A⟩
/-- The disk did something. -/
theorem LoAt.disk {A D G : Nat → Prop} {w w1 w2 : World} {g dg : Nat} {s : Wl} {d : DS} (h2 : LgB G w1 g (.pointer (some ⟨dg, 0, none⟩)) s.v s.fr s.tt s.sz) (h3 : ∀ q, D q → A q ∧ q ≠ g ∧ ¬ G q) (h4 : ∀ q, G q → A q ∧ q ≠ g) (h5 : A g) (h6 : ∀ q, A q → q < w.heap.size)
    (hx : Frm A w w1) (hp : DiskAt (grow D w1 w2) w2 dg d) (hf : Frm D w1 w2) : LoAt (grow A w w2) w2 g dg ⟨s, d⟩ ∧ Frm A w w2 := by
  have z1 := hx.size
  have z2 := hf.size
  have hG : ∀ k, G k → ¬ D k := fun k hk hD => (h3 k hD).2.2 hk
  have hgD : ¬ D g := fun h => (h3 g h).2.1 rfl
  refine ⟨⟨grow D w1 w2, G, hp, h2.keep (hf.block g h2.lt hgD) fun k hk hl => ⟨hk, hf.block k hl (hG k hk)⟩, fun q hq => ?_, fun q hq => ⟨.inl (h4 q hq).1, (h4 q hq).2⟩, .inl h5, fun q hq => ?_⟩, hx.trans hf fun q hq => .inl (h3 q hq).1⟩
  · rcases hq with hq | hq
    · exact ⟨.inl (h3 q hq).1, (h3 q hq).2⟩
    refine ⟨.inr ⟨by omega, hq.2⟩, ?_, fun h => ?_⟩
    · have := h6 g h5; omega
    have := h6 q (h4 q h).1; omega
  rcases hq with hq | hq
  · have := h6 q hq; omega
  exact hq.2
/-! ### what Open leads to -/
def goesW (s : Wl) (n : Nat) : Prop := n < s.fr ∨ s.tt < n
instance (s : Wl) (n : Nat) : Decidable (goesW s n) := by unfold goesW; infer_instance
def dropsW (s : Wl) : List Nat → DS → Int × DS
  | [], d => (0, d)
  | n :: r, d => if goesW s n then (if (d.drop (fileW n)).1 ≠ 0 then d.drop (fileW n) else dropsW s r (d.drop (fileW n)).2) else dropsW s r d
def trimW (s : Wl) (d : DS) : Int × DS := if 0 < s.tt then d.trim (fileW s.tt) (s.sz : Int) else (0, d)
def endW (s : Wl) (r : Int × DS) : Int × DS :=
  if r.1 ≠ 0 then r else if (trimW s r.2).1 ≠ 0 then trimW s r.2 else (trimW s r.2).2.sync
def openW (d : DS) (l : List Nat) : Int × DS := endW (readS d l) (dropsW (readS d l) l d)
theorem dropsW_cons (s : Wl) (n : Nat) (r : List Nat) (d : DS) : dropsW s (n :: r) d = if goesW s n then (if (d.drop (fileW n)).1 ≠ 0 then d.drop (fileW n) else dropsW s r (d.drop (fileW n)).2) else dropsW s r d := rfl
theorem dropsW_ok (s : Wl) : ∀ (l : List Nat) {d : DS}, d.Ok → (dropsW s l d).2.Ok := by
  intro l
  induction l with
  | nil => intro d h; exact h
  | cons n r ih =>
    intro d h
    rw [dropsW_cons]
    split
    · split
      · exact h.drop _
      exact ih (h.drop _)
    exact ih h
theorem DS.trim_acts (s : DS) (n : Nm) (k : Int) : (s.trim n k).2.acts.length ≤ s.acts.length + 1 := by
  unfold DS.trim
  have h1 := fun a => DS.does_acts s a
  repeat' split
  all_goals first
    | exact h1 _
    | (dsimp only; omega)
/-! ### what a log that was read may be -/
structure Wl.Fine (s : Wl) : Prop where
  v : s.v.Fine 12000000
  tt : s.tt < 1000000000000
  fr : s.fr ≤ s.tt
  sz : s.sz ≤ 1000000000000
theorem sizedB_take_le (L : List By) (k : Nat) (h : ∀ p ∈ L, p.length ≤ 65536) (hl : L.length ≤ 4000000) : sizedB (L.take k) ≤ 1000000000000 := by
  have h1 := sizedB_le (L.take k) fun p hp => h p (List.mem_of_mem_take hp)
  rw [List.length_take] at h1
  have : 65550 * min k L.length ≤ 65550 * 4000000 := Nat.mul_le_mul_left _ (by omega)
  omega
theorem follow_fine {d : DS} (hok : d.Ok) : ∀ (l : List Nat) (s : Wl) (m : Nat), (∀ n ∈ l, n < 1000000000000) → (∀ n ∈ l, (segR d n).length ≤ 4000000) → s.v.Fine m → s.tt < 1000000000000 → s.fr ≤ s.tt → s.sz ≤ 1000000000000 →
    (followS d l s).v.Fine (m + sumR d l) ∧ (followS d l s).tt < 1000000000000 ∧ (followS d l s).fr ≤ (followS d l s).tt ∧ (followS d l s).sz ≤ 1000000000000 := by
  intro l
  induction l with
  | nil => intro s m _ _ h1 h2 h3 h4; exact ⟨h1.le (by omega), h2, h3, h4⟩
  | cons n r ih =>
    intro s m hn hl h1 h2 h3 h4
    obtain ⟨-, -, sb3⟩ := seg_bound hok n
    have hn1 := hn n (List.mem_cons_self ..)
    have hl1 := hl n (List.mem_cons_self ..)
    have hf := more_fine (segR d n) s.v m h1
    have hz := sizedB_take_le (segR d n) (0 + (s.v.more (segR d n)).2) sb3 hl1
    rw [follow_cons, sumR_cons]
    unfold Wl.grow
    rw [List.drop_zero]
    split
    · exact ⟨h1.le (by omega), h2, h3, h4⟩
    rename_i hne
    have hne1 : n = s.tt + 1 := Decidable.of_not_not fun h => hne (.inl h)
    split
    · exact ⟨hf.le (by omega), h2, h3, h4⟩
    split
    · obtain ⟨i1, i2, i3, i4⟩ := ih ⟨(s.v.more (segR d n)).1, s.fr, n, sizedB ((segR d n).take (0 + (s.v.more (segR d n)).2))⟩ (m + (segR d n).length) (fun x hx => hn x (List.mem_cons_of_mem _ hx)) (fun x hx => hl x (List.mem_cons_of_mem _ hx)) hf hn1 (by show s.fr ≤ n; omega) hz
      exact ⟨i1.le (by omega), i2, i3, i4⟩
    exact ⟨hf.le (by omega), hn1, by show s.fr ≤ n; omega, hz⟩
theorem Wl.zero_fine : wl0.Fine := ⟨⟨⟨⟨by decide, by decide⟩, ⟨by decide, by decide⟩, ⟨by decide, by decide⟩, ⟨by decide, by decide⟩⟩, ⟨by decide, by decide⟩, Nat.zero_le _, fun x hx => by cases hx⟩, by decide, by decide, by decide⟩
theorem scan_fine {d : DS} (hok : d.Ok) {l : List Nat} (hs : d.Segs l) : ∀ k, k ≤ l.length → (scanS d l k).Fine := by
  intro k
  induction k with
  | zero => intro _; exact Wl.zero_fine
  | succ k ih =>
    intro hk
    have hjl : k < l.length := by omega
    have hgd : l.getD k 0 = l[k] := by rw [List.getD_eq_getElem?_getD, List.getElem?_eq_getElem hjl]; rfl
    rw [scanS_succ, hgd]
    have hm := List.getElem_mem hjl
    generalize l[k] = n at *
    obtain ⟨-, -, sb3⟩ := seg_bound hok n
    have hn := hs.num n hm
    have hl1 := Nat.le_trans (sumR_mem (d := d) hm) hs.sum
    obtain ⟨b1, b2⟩ := begin_ok (segR d n)
    unfold Wl.grow
    have hf := more_fine ((segR d n).drop (beginW (segR d n)).2) (beginW (segR d n)).1 _ b2
    rw [List.length_drop] at hf
    have hz := sizedB_take_le (segR d n) ((beginW (segR d n)).2 + ((beginW (segR d n)).1.more ((segR d n).drop (beginW (segR d n)).2)).2) sb3 hl1
    split
    · exact ih (by omega)
    split
    · obtain ⟨i1, i2, i3, i4⟩ := follow_fine hok (l.drop (k + 1)) ⟨((beginW (segR d n)).1.more ((segR d n).drop (beginW (segR d n)).2)).1, n, n, sizedB ((segR d n).take ((beginW (segR d n)).2 + ((beginW (segR d n)).1.more ((segR d n).drop (beginW (segR d n)).2)).2))⟩ _ (fun x hx => (hs.num x (List.mem_of_mem_drop hx)).2)
        (fun x hx => Nat.le_trans (sumR_mem (d := d) (List.mem_of_mem_drop hx)) hs.sum) hf hn.2 (Nat.le_refl _) hz
      exact ⟨i1.le (by have := sumR_drop d l (k + 1); have := hs.sum; omega), i2, i3, i4⟩
    exact ⟨hf.le (by omega), hn.2, Nat.le_refl _, hz⟩
theorem read_fine {d : DS} (hok : d.Ok) {l : List Nat} (hs : d.Segs l) : (readS d l).Fine := scan_fine hok hs l.length (Nat.le_refl _)
end Go.Proofs.YtikjckdoldiddaaGreatDoor
