/- The walk of Trim; the disk's calls at a disk in memory. Printed by gen_wt1.py. -/
import Derived.Test.YtikjckdoldiddaaGreatDoorC03
import Derived.Test.YtikjckdoldiddaaGreatDoorC18
namespace Go.Proofs.YtikjckdoldiddaaGreatDoor
open Go.RowKit Go.Maps
set_option linter.unusedVariables false
set_option linter.unusedSimpArgs false
attribute [local go_sem] bmax2 bmin2 bmax_two bmin_two

set_option maxRecDepth 100000 in
set_option maxHeartbeats 8000000 in
theorem Trim_in {D : Nat → Prop} {w : World} {g : Nat} {s : DS} {ms ml : Nat} {av : Value} {H : List AcH} (h : DiskIn D w g s ms ml av H) (hok : s.Ok) (hcount : s.acts.length < 1000000000000) (n : Nm) (hn : n.length ≤ maxLen) (k : Int) (hk : In64 k) :
    Calls Tryz.prog 60 #[.pointer (some ⟨g, 0, none⟩), .string ⟨n.toArray⟩, .int .i64 k] w (DoPost D g (s.trim n k) w) := by
  obtain ⟨hk1, hk2⟩ := hk
  have hx0 : Ext w ((w.alloc (.cells #[.string ⟨n.toArray⟩] 9)).alloc (.cells #[.int .i64 k] 3)) := Ext.trans' (ext_alloc _ _) (ext_alloc _ _)
  have hc0 : ((w.alloc (.cells #[.string ⟨n.toArray⟩] 9)).alloc (.cells #[.int .i64 k] 3)).cell? ⟨w.heap.size, 0, none⟩ = some (.string ⟨n.toArray⟩) := by
    rw [(ext_alloc (w.alloc (.cells #[.string ⟨n.toArray⟩] 9)) _).cell (by simp)]
    unfold World.cell?; rw [heap_alloc_new]; rfl
  have hc1 : ((w.alloc (.cells #[.string ⟨n.toArray⟩] 9)).alloc (.cells #[.int .i64 k] 3)).cell? ⟨w.heap.size + 1, 0, none⟩ = some (.int .i64 k) := by
    have := heap_alloc_new (w.alloc (.cells #[.string ⟨n.toArray⟩] 9)) (.cells #[.int .i64 k] 3)
    simp only [World.size_alloc] at this
    unfold World.cell?; rw [this]; rfl
  have HF := hid (find_in (h.below hx0) n hn)
  obtain ⟨-, -, -, -, c4, c5, -, -, -, hgl⟩ := h.cells
  have HI := hid h
  have HOK := hid hok
  have HX0 := hid hx0
  have HC0 := hid hc0
  have HC1 := hid hc1
  clear h hok hx0 hc0 hc1
  by_cases hf : s.find n = 0
  · obtain ⟨hoff, hm, b0, hg⟩ := DS.find_zero hf
    rw [hf] at HF
    have hold : tOld s.seen n = b0 := by unfold tOld; rw [hg]; rfl
    have HG := hid hg
    by_cases hC : k < 0 ∨ k > (b0.length : Int)
    · have hr : s.trim n k = (1, s) := by unfold DS.trim; rw [if_neg (by rw [hf]; simp), if_pos (by rw [hold]; exact hC)]
      rw [hr]
      clear hr hf hoff hm hg hold
      by_cases hk0 : k < 0
      · have hkb : decide (k < 0) = true := by simpa using hk0
        clear hC
        go_enter Tryz.func60, Tryz.ntmps60
        go_wp2_with fail
        refine Calls.mono HF.out ?_
        rintro e w1 ⟨rfl, hx1⟩
        have HX1 := hid (Ext.trans' HX0.out hx1)
        have cc0 := (hx1.cell (p := ⟨w.heap.size, 0, none⟩) (by simp; omega)).trans HC0.out
        have cc1 := (hx1.cell (p := ⟨w.heap.size + 1, 0, none⟩) (by simp)).trans HC1.out
        have cc5 := (HX1.out.cell (p := ⟨g, 5, none⟩) hgl).trans c5
        have hz1 : w.heap.size + 2 ≤ w1.heap.size := by have := hx1.size; simpa using this
        obtain ⟨HH, hHown, hHtf⟩ := HI.out.seen.below HX1.out
        have hHl : HH.length = s.seen.length := hHtf.len
        have HHO := hid hHown
        have HHL := hid hHl
        have HTF := hid hHtf
        have hg1 : g < w1.heap.size := by omega
        clear hx1 HF hHown hHtf hHl
        clear hk0
        go_wp2
        refine wp_region_quiet_lit (by kernel_rfl) (by kernel_rfl) ?_
        repeat (any_goals (first | go_big_quiet_step (fail) | quiet_step (fail)))
        refine wpQuiet_nil ?_
        intro wq hwq
        obtain ⟨nq, hwq⟩ := hwq
        subst hwq
        go_wp2
        go_ret
        exact op_same HI.out.at_ (below_drewN HX1.out _)
      have hk0 : 0 ≤ k := by omega
      have hkb : decide (k < 0) = false := by simp; omega
      have hkl : decide ((b0.length : Int) < k) = true := by simp; omega
      clear hC
      go_enter Tryz.func60, Tryz.ntmps60
      go_wp2_with fail
      refine Calls.mono HF.out ?_
      rintro e w1 ⟨rfl, hx1⟩
      have HX1 := hid (Ext.trans' HX0.out hx1)
      have cc0 := (hx1.cell (p := ⟨w.heap.size, 0, none⟩) (by simp; omega)).trans HC0.out
      have cc1 := (hx1.cell (p := ⟨w.heap.size + 1, 0, none⟩) (by simp)).trans HC1.out
      have cc5 := (HX1.out.cell (p := ⟨g, 5, none⟩) hgl).trans c5
      have hz1 : w.heap.size + 2 ≤ w1.heap.size := by have := hx1.size; simpa using this
      obtain ⟨HH, hHown, hHtf⟩ := HI.out.seen.below HX1.out
      have hHl : HH.length = s.seen.length := hHtf.len
      have HHO := hid hHown
      have HHL := hid hHl
      have HTF := hid hHtf
      have hg1 : g < w1.heap.size := by omega
      clear hx1 HF hHown hHtf hHl
      obtain ⟨p1, c1, hl1⟩ := look_drew HHO.out HTF.out hn HG.out
      clear hk0
      go_wp2
      refine wp_region_quiet_lit (by kernel_rfl) (by kernel_rfl) ?_
      repeat (any_goals (first | go_big_quiet_step (fail) | quiet_step (fail)))
      refine wpQuiet_nil ?_
      intro wq hwq
      obtain ⟨nq, hwq⟩ := hwq
      subst hwq
      go_wp2
      go_ret
      exact op_same HI.out.at_ (below_drewN HX1.out _)
    have hk0 : 0 ≤ k := by omega
    obtain ⟨kk, hkk⟩ := Int.eq_ofNat_of_zero_le hk0
    have HKK := hid hkk
    have hkle : kk ≤ b0.length := by omega
    have hr : s.trim n k = s.does (.trim n kk) := by
      unfold DS.trim; rw [if_neg (by rw [hf]; simp), if_neg (by rw [hold]; exact hC)]; rw [hkk]; rfl
    have hfit : ActS.Fits (.trim n kk) s.seen := ⟨(mayS_len hm).2, by rw [hg]; rfl, by rw [hold]; exact hkle⟩
    rw [hr]
    have hkb : decide (k < 0) = false := by simp; omega
    have hkl : decide ((b0.length : Int) < k) = false := by simp; omega
    have HD := hid (fun W (h : DiskIn (grow D w W) W g s ms ml av H) (hav : ActV (Imm (grow D w W) g ms ml av) W (.func (.func 113) #[] #[.pointer (some ⟨w.heap.size, 0, none⟩), .pointer (some ⟨w.heap.size + 1, 0, none⟩)]) (.trim n kk)) =>
      do_trim h HOK.out hoff hcount n kk hfit (by have := HOK.out.used; simp [ActS.data]; omega) (da := none) (dn := 0) (dc := 0) hav (ByF.nil_ _ _))
    clear hC hkk hkle hr hf hoff hm hg hold hfit
    go_enter Tryz.func60, Tryz.ntmps60
    go_wp2_with fail
    refine Calls.mono HF.out ?_
    rintro e w1 ⟨rfl, hx1⟩
    have HX1 := hid (Ext.trans' HX0.out hx1)
    have cc0 := (hx1.cell (p := ⟨w.heap.size, 0, none⟩) (by simp; omega)).trans HC0.out
    have cc1 := (hx1.cell (p := ⟨w.heap.size + 1, 0, none⟩) (by simp)).trans HC1.out
    have cc5 := (HX1.out.cell (p := ⟨g, 5, none⟩) hgl).trans c5
    have hz1 : w.heap.size + 2 ≤ w1.heap.size := by have := hx1.size; simpa using this
    obtain ⟨HH, hHown, hHtf⟩ := HI.out.seen.below HX1.out
    have hHl : HH.length = s.seen.length := hHtf.len
    have HHO := hid hHown
    have HHL := hid hHl
    have HTF := hid hHtf
    have hg1 : g < w1.heap.size := by omega
    clear hx1 HF hHown hHtf hHl
    obtain ⟨p1, c1, hl1⟩ := look_drew HHO.out HTF.out hn HG.out
    have CC0 := hid cc0
    have CC1 := hid cc1
    go_wp2
    refine wp_region_quiet_lit (by kernel_rfl) (by kernel_rfl) ?_
    repeat (any_goals (first | go_big_quiet_step (fail) | quiet_step (fail)))
    refine wpQuiet_nil ?_
    intro wq hwq
    obtain ⟨nq, hwq⟩ := hwq
    subst hwq
    go_wp2_with fail
    have hx2 : Ext w (w1.drewN nq) := below_drewN HX1.out _
    refine Calls.mono (HD.out (w1.drewN nq) (HI.out.wide hx2) ⟨w.heap.size, w.heap.size + 1, rfl, HI.out.fresh (Nat.le_refl _) (by show _ < w1.heap.size; omega), HI.out.fresh (by omega) (by show _ < w1.heap.size; omega), CC0.out, by rw [← HKK.out]; exact CC1.out⟩) ?_
    intro e w2 hd
    have HP := hid (op_done hx2 HI.out.lt hd)
    obtain ⟨rfl, -, -⟩ := hd
    go_wp2
    go_ret
    exact HP.out
  have hr : s.trim n k = (s.find n, s) := by unfold DS.trim; rw [if_pos hf]
  rw [hr]
  have hb : (s.find n != 0) = true := by simpa using hf
  clear hr
  generalize s.find n = z at *
  go_enter Tryz.func60, Tryz.ntmps60
  go_wp2_with (go_at_call 110; refine Calls.mono HF.out ?_; rintro e w1 ⟨rfl, hx1⟩)
  go_ret
  exact op_same HI.out.at_ (Ext.trans' HX0.out hx1)
theorem Trim_at {D : Nat → Prop} {w : World} {g : Nat} {s : DS} (h : DiskAt D w g s) (hok : s.Ok) (hc : s.acts.length < 1000000000000) (n : Nm) (hn : n.length ≤ maxLen) (k : Int) (hk : In64 k) :
    Calls Tryz.prog 60 #[.pointer (some ⟨g, 0, none⟩), .string ⟨n.toArray⟩, .int .i64 k] w (DoPost D g (s.trim n k) w) := by
  obtain ⟨ms, ml, av, H, h⟩ := h
  exact Trim_in h hok hc n hn k hk
end Go.Proofs.YtikjckdoldiddaaGreatDoor

/- The walk of Open. Printed by gen_wop.py. -/
namespace Go.Proofs.YtikjckdoldiddaaGreatDoor
open Go.RowKit Go.Maps
set_option linter.unusedVariables false
set_option linter.unusedSimpArgs false
attribute [local go_sem] bmax2 bmin2 bmax_two bmin_two

theorem openW_done {D : Nat → Prop} {w w4 wz : World} {g dg : Nat} {s : Wl} {d : DS} (hx : Ext w w4) (hg : w.heap.size ≤ g) (hD : ∀ q, D q → q < w.heap.size) (hL : LgB (fun q => w.heap.size ≤ q ∧ q < w4.heap.size ∧ q ≠ g) w4 g (.pointer (some ⟨dg, 0, none⟩)) s.v s.fr s.tt s.sz)
    (hz : DiskAt (Go.Proofs.YtikjckdoldiddaaGreatDoor.grow D w4 wz) wz dg d) (hf : Frm D w4 wz) : LoAt (Go.Proofs.YtikjckdoldiddaaGreatDoor.grow D w wz) wz g dg ⟨s, d⟩ ∧ DiskAt (Go.Proofs.YtikjckdoldiddaaGreatDoor.grow D w wz) wz dg d ∧ Frm D w wz := by
  have z4 := hx.size
  have zz := hf.size
  have hl := hz.lt
  have hg4 := hL.lt
  have hgr : ∀ q, Go.Proofs.YtikjckdoldiddaaGreatDoor.grow D w wz q → q < wz.heap.size := fun q hq => by
    rcases hq with hq | hq
    · exact hl q (.inl hq)
    exact hq.2
  have hsub : ∀ q, Go.Proofs.YtikjckdoldiddaaGreatDoor.grow D w4 wz q → Go.Proofs.YtikjckdoldiddaaGreatDoor.grow D w wz q := fun q hq => by
    rcases hq with hq | hq
    · exact .inl hq
    exact .inr ⟨by omega, hq.2⟩
  refine ⟨⟨Go.Proofs.YtikjckdoldiddaaGreatDoor.grow D w4 wz, _, hz, hL.keep (G := fun q => w.heap.size ≤ q ∧ q < w4.heap.size ∧ q ≠ g) (hf.block g hg4 fun h => by have := hD g h; omega) (fun k hk h2 => ⟨hk, hf.block k h2 fun h => by have := hD k h; have := hk.1; omega⟩), fun q hq => ⟨hsub q hq, ?_, ?_⟩, fun q hq => ⟨.inr ⟨hq.1, by have := hq.2.1; omega⟩, hq.2.2⟩, .inr ⟨hg, by omega⟩, hgr⟩, hz.more hsub hgr, Frm.after_ext hx hf⟩
  · rcases hq with hq | hq
    · have := hD q hq; omega
    omega
  rintro ⟨h1, h2, -⟩
  rcases hq with hq | hq
  · have := hD q hq; omega
  omega
def OpenWPost (D : Nat → Prop) (dg : Nat) (r : Int × DS) (s : Wl) (w : World) (e : Ending) (w' : World) : Prop :=
  (r.1 ≠ 0 ∧ e = .returned (.tuple #[.pointer none, .int .i64 r.1]) ∧ DiskAt (Go.Proofs.YtikjckdoldiddaaGreatDoor.grow D w w') w' dg r.2 ∧ Frm D w w') ∨
  (r.1 = 0 ∧ ∃ g, e = .returned (.tuple #[.pointer (some ⟨g, 0, none⟩), .int .i64 0]) ∧ LoAt (Go.Proofs.YtikjckdoldiddaaGreatDoor.grow D w w') w' g dg ⟨s, r.2⟩ ∧ Frm D w w' ∧ w.heap.size ≤ g)
set_option maxRecDepth 100000 in
set_option maxHeartbeats 8000000 in
theorem OpenW_any {D : Nat → Prop} {w : World} {dg : Nat} {d : DS} {l : List Nat} (hd : DiskAt D w dg d) (hok : d.Ok) (hs : d.Segs l) (hc : d.acts.length ≤ 1000000000) (hT : TabP w) (hpow : ¬ D powG) :
    Calls Tryz.prog 18 #[.pointer (some ⟨dg, 0, none⟩)] w (OpenWPost D dg (openW d l) (readS d l) w) := by
  have HD := hid hd
  have HDL := hid hd.lt
  have HOK := hid hok
  have HC := hid hc
  have HT := hid hT
  have HPOW := hid hpow
  have HCL := hid (Clone_at hd hok (by omega))
  have HSG := hid hs
  have HNM := hid hs.num
  have hlen : l.length ≤ 4096 := hs.many
  have HFI := hid (read_fine hok hs)
  obtain ⟨s, hse⟩ : ∃ s, s = readS d l := ⟨_, rfl⟩
  rw [← hse] at HFI ⊢
  have HSE := hid hse
  obtain ⟨r0, hr0⟩ : ∃ r, r = openW d l := ⟨_, rfl⟩
  rw [← hr0]
  have HR0 := hid (show r0 = endW s (dropsW s l d) by rw [hr0, hse]; rfl)
  clear hd hok hs hc hT hpow hse hr0
  go_enter Tryz.func18, Tryz.ntmps18
  go_wp2_with fail
  refine Calls.mono HCL.out ?_
  rintro e w1 ⟨⟨p, rfl⟩, hx1⟩
  have hx2 := ext_alloc w1 (.cells #[.int .i64 0, .int .i64 0, .int .i64 0, .int .i64 0, .slice none 0 0, .pointer (some ⟨dg, 0, none⟩), .int .i64 0, .int .i64 0, .int .i64 0] 64)
  have hn2 := heap_alloc_new w1 (.cells #[.int .i64 0, .int .i64 0, .int .i64 0, .int .i64 0, .slice none 0 0, .pointer (some ⟨dg, 0, none⟩), .int .i64 0, .int .i64 0, .int .i64 0] 64)
  have hz2 : (w1.alloc (.cells #[.int .i64 0, .int .i64 0, .int .i64 0, .int .i64 0, .slice none 0 0, .pointer (some ⟨dg, 0, none⟩), .int .i64 0, .int .i64 0, .int .i64 0] 64)).heap.size = w1.heap.size + 1 := World.size_alloc ..
  have HX1 := hid hx1
  have HX2 := hid (hx1.trans' hx2)
  have HN2 := hid hn2
  have HZ2 := hid hz2
  clear hx1 hx2 hn2 hz2
  go_wp2_with fail
  generalize w1.alloc (.cells #[.int .i64 0, .int .i64 0, .int .i64 0, .int .i64 0, .slice none 0 0, .pointer (some ⟨dg, 0, none⟩), .int .i64 0, .int .i64 0, .int .i64 0] 64) = w2 at *
  obtain ⟨g, hg⟩ : ∃ g, g = w1.heap.size := ⟨_, rfl⟩
  rw [← hg] at HN2 HZ2 ⊢
  have HGW := hid (show w.heap.size ≤ g by have := HX1.out.size; omega)
  have HTL := hid HT.out.lt
  have HRD := hid (read_any (F := fun _ => False) (HD.out.below HX2.out) HOK.out HSG.out (fun h => by have := HDL.out g h; have := HGW.out; omega) (HT.out.ext HX2.out) (by have := HTL.out; have := HGW.out; omega) ⟨none, 0, 0, HN2.out, EsF.nil_ _ _⟩ (fun h => h))
  rw [← HSE.out] at HRD
  clear hg
  refine Calls.mono HRD.out ?_
  rintro e w3 ⟨rfl, hl3, hf3⟩
  have HX3 := hid (ext_frm HX2.out hf3 (fun q hq => by rw [show q = g from hq]; exact HGW.out))
  have HZ3 := hid (show w2.heap.size ≤ w3.heap.size from hf3.size)
  have HL3 := hid hl3
  clear hl3 hf3 HRD
  have HLI := hid (List_at (HD.out.below HX3.out) HOK.out)
  go_wp2_with fail
  refine Calls.mono HLI.out ?_
  rintro e w4 ⟨v, rfl, hrow, hx4⟩
  rw [HSG.out.list, show (List.map strV (l.map fileW)) = (l.map fileW).map strV from rfl] at hrow
  obtain ⟨ra, rc, rfl, hrc, hcell⟩ := row_str hrow
  have hcell2 : ∀ k (hk : k < l.length), ∃ b, ra = some ⟨b, 0, none⟩ ∧ w3.heap.size ≤ b ∧ b < w4.heap.size ∧ w4.cell? ⟨b, k, none⟩ = some (.string ⟨(fileW l[k]).toArray⟩) := fun k hk => by
    obtain ⟨b, e1, e2, e3, e4⟩ := hcell k (by rw [List.length_map]; exact hk)
    refine ⟨b, e1, e2, e3, ?_⟩
    rw [List.getElem_map] at e4
    exact e4
  have HCELL := hid hcell2
  have HX4 := hid (HX3.out.trans' hx4)
  have HL4 := hid (show LgB (fun q => w.heap.size ≤ q ∧ q < w4.heap.size ∧ q ≠ g) w4 g (.pointer (some ⟨dg, 0, none⟩)) s.v s.fr s.tt s.sz from (HL3.out.below hx4).keep rfl fun q hq hl => ⟨by
    rcases hq with hq | hq
    · exact hq.elim
    have := HGW.out; have := HZ2.out; exact ⟨by omega, hl, by omega⟩, rfl⟩)
  have HD4 := hid (HD.out.below HX4.out)
  have HT4 := hid (HT.out.ext HX4.out)
  rw [List.length_map] at hrc ⊢
  have HGB := hid (show w.heap.size ≤ w3.heap.size from HX3.out.size)
  clear hrow hx4 hcell hcell2 HLI
  go_wp2
  go_loopw [6, 7, 8, 22] (fun _ _ _ z wr => ∃ (k : Nat) (dk : DS), k ≤ l.length ∧ z = .int .i64 (k : Int) ∧ Hid (DiskAt (Go.Proofs.YtikjckdoldiddaaGreatDoor.grow D w4 wr) wr dg dk) ∧ Hid (Frm D w4 wr) ∧ Hid (dk.Ok) ∧ Hid (dk.acts.length ≤ d.acts.length + k) ∧ Hid (dropsW s l d = dropsW s (l.drop k) dk)) (fun _ _ _ z _ => l.length - (intOf z).toNat)
  case atStart => exact ⟨0, d, Nat.zero_le _, rfl, HD4.out.more (fun q hq => .inl hq) (grow.lt HD4.out.lt (Nat.le_refl _)), Frm.refl _ _, HOK.out, Nat.le_refl _, rfl⟩
  obtain ⟨k, dk, hk, rfl, HDk, HFk, HOk, HAk, HLk⟩ := hrel
  have HTr := hid (HT4.out.frm HFk.out HPOW.out)
  have HLr := hid (fun W (hW : Frm (Go.Proofs.YtikjckdoldiddaaGreatDoor.grow D w4 wr) wr W) => HL4.out.keep (w' := W) (G := fun q => w.heap.size ≤ q ∧ q < w4.heap.size ∧ q ≠ g) ((hW.block g (Nat.lt_of_lt_of_le HL4.out.lt HFk.out.size) fun h => by rcases h with h | h; (have := HDL.out g h; have := HGW.out; omega); (have := HL4.out.lt; have := h.1; omega)).trans (HFk.out.block g HL4.out.lt fun h => by have := HDL.out g h; have := HGW.out; omega)) (fun q hq h2 => ⟨hq, (hW.block q (Nat.lt_of_lt_of_le h2 HFk.out.size) fun h => by rcases h with h | h; (have := HDL.out q h; have := hq.1; omega); (have := hq.2.1; have := h.1; omega)).trans (HFk.out.block q h2 fun h => by have := HDL.out q h; have := hq.1; omega)⟩))
  by_cases hlt : k < l.length
  · obtain ⟨rb, hra, hrB, hrl, hcw⟩ := HCELL.out k hlt
    subst hra
    have hcr := (HFk.out.cell (p := ⟨rb, k, none⟩) hrl (fun h => by have h1 := HDL.out _ h; have h2 := HGB.out; simp at h1; omega)).trans hcw
    have hdr : l.drop k = l[k] :: l.drop (k + 1) := List.drop_eq_getElem_cons hlt
    obtain ⟨n1, n2⟩ := HNM.out l[k] (List.getElem_mem _)
    obtain ⟨n, hne⟩ : ∃ n, n = l[k] := ⟨_, rfl⟩
    rw [← hne] at hcr hdr n1 n2
    have hLk := HLk.out
    rw [hdr, dropsW_cons] at hLk
    have HNU := hid (fun W (hW : Ext wr W) => numberW_any (HTr.out.ext hW) n1 n2)
    have hac2 := DS.drop_acts dk (fileW n)
    have hok2 := HOk.out.drop (fileW n)
    have HDP := hid (fun W (hW : Ext wr W) => Drop_at (HDk.out.below hW) HOk.out (by have := HAk.out; have := HC.out; omega) (fileW n) (by rw [fileW_len n2]; decide))
    obtain ⟨f, hfe⟩ : ∃ f, f = fileW n := ⟨_, rfl⟩
    rw [← hfe] at hcr hLk HNU hac2 hok2 HDP
    obtain ⟨r, hr⟩ : ∃ r, r = dk.drop f := ⟨_, rfl⟩
    rw [← hr] at hac2 hok2 HDP hLk
    obtain ⟨r1, r2⟩ := r
    dsimp only at hac2 hok2 hLk
    have HLK := hid hLk
    have HAC2 := hid (show r2.acts.length ≤ d.acts.length + (k + 1) by have := HAk.out; omega)
    have HOK2 := hid hok2
    have hn0 : (0 : Int) < (n : Int) := by omega
    have hn0d : decide (0 < n) = true := by simp; omega
    clear hcw hrB hrl hne hdr hLk n1 n2 hac2 hok2 hfe hr
    go_wp2_with fail
    refine Calls.mono (HNU.out wr (Below.refl _ _)) ?_
    rintro e w5 ⟨rfl, hx5⟩
    obtain ⟨-, c6, c7, -, -⟩ := (HLr.out w5 (Frm.of_ext hx5 _)).cells
    have HX5 := hid hx5
    clear hx5
    cases h1 : decide (n < s.fr) with
    | true =>
      have HGO := hid (show goesW s n from .inl (by simpa using h1))
      have HL2 := hid (HLK.out.trans (if_pos HGO.out))
      go_wp2_with fail
      refine Calls.mono (HDP.out w5 HX5.out) ?_
      rintro e w8 hE
      have hN := DoPost.next HDk.out HFk.out HX5.out hE
      obtain ⟨rfl, -, -⟩ := hE
      have HN := hid hN
      clear hN c6 c7
      by_cases hr1 : r1 = 0
      · subst hr1
        have HL3 := hid (HL2.out.trans (if_neg (by simp)))
        go_wp2
        go_roundw
        case rel => exact ⟨k + 1, r2, by omega, by go_num, HN.out.2.1, HN.out.2.2, HOK2.out, HAC2.out, HL3.out⟩
        case measure => simp [intOf]; omega
      have hb : (r1 != 0) = true := by simpa using hr1
      have HR1 := hid hr1
      have HL3 := hid (HL2.out.trans (if_pos hr1))
      have HOP := hid (show r0 = (r1, r2) by rw [HR0.out, HL3.out]; unfold endW; rw [if_pos hr1])
      have HDN := hid (openW_done HX4.out HGW.out HDL.out HL4.out HN.out.2.1 HN.out.2.2)
      clear hr1
      go_wp2
      go_ret2
      rw [HOP.out]
      exact .inl ⟨HR1.out, rfl, HDN.out.2.1, HDN.out.2.2⟩
    | false =>
      cases h2 : decide (s.tt < n) with
      | true =>
        have HGO := hid (show goesW s n from .inr (by simpa using h2))
        have HL2 := hid (HLK.out.trans (if_pos HGO.out))
        go_wp2_with fail
        refine Calls.mono (HDP.out w5 HX5.out) ?_
        rintro e w8 hE
        have hN := DoPost.next HDk.out HFk.out HX5.out hE
        obtain ⟨rfl, -, -⟩ := hE
        have HN := hid hN
        clear hN c6 c7
        by_cases hr1 : r1 = 0
        · subst hr1
          have HL3 := hid (HL2.out.trans (if_neg (by simp)))
          go_wp2
          go_roundw
          case rel => exact ⟨k + 1, r2, by omega, by go_num, HN.out.2.1, HN.out.2.2, HOK2.out, HAC2.out, HL3.out⟩
          case measure => simp [intOf]; omega
        have hb : (r1 != 0) = true := by simpa using hr1
        have HR1 := hid hr1
        have HL3 := hid (HL2.out.trans (if_pos hr1))
        have HOP := hid (show r0 = (r1, r2) by rw [HR0.out, HL3.out]; unfold endW; rw [if_pos hr1])
        have HDN := hid (openW_done HX4.out HGW.out HDL.out HL4.out HN.out.2.1 HN.out.2.2)
        clear hr1
        go_wp2
        go_ret2
        rw [HOP.out]
        exact .inl ⟨HR1.out, rfl, HDN.out.2.1, HDN.out.2.2⟩
      | false =>
        have HGO := hid (show ¬ goesW s n from fun h => by rcases h with h | h; have h1 := of_decide_eq_false h1; exact h1 h; have h2 := of_decide_eq_false h2; exact h2 h)
        have HL2 := hid (HLK.out.trans (if_neg HGO.out))
        have HN := hid (DoPost.next (D := D) (w := w4) HDk.out HFk.out HX5.out (op_same (z := 0) (HDk.out.below HX5.out) (Below.refl _ _)))
        go_wp2
        go_roundw
        case rel => exact ⟨k + 1, dk, by omega, by go_num, HN.out.2.1, HN.out.2.2, HOk.out, by have := HAk.out; exact hid (by omega), HL2.out⟩
        case measure => simp [intOf]; omega
  have hkL : k = l.length := by omega
  have HL2 := hid (show dropsW s l d = (0, dk) by rw [HLk.out, hkL, List.drop_of_length_le (Nat.le_refl _)]; rfl)
  have HRE := hid (show r0 = if (trimW s dk).1 ≠ 0 then trimW s dk else (trimW s dk).2.sync by rw [HR0.out, HL2.out]; unfold endW; rw [if_neg (by simp)])
  have HKL := hid hkL
  clear hkL HLk
  obtain ⟨-, c6, c7, c8, -⟩ := (HLr.out wr (Frm.refl _ _)).cells
  by_cases htt : 0 < s.tt
  · have htw : trimW s dk = dk.trim (fileW s.tt) (s.sz : Int) := if_pos htt
    have hfi := HFI.out
    have HFL := hid (fileW_len hfi.tt)
    have HNA := hid (fun W (hW : Ext wr W) => nameW_any (HTr.out.ext hW) hfi.tt)
    have HTM := hid (fun W (hW : Ext wr W) => Trim_at (HDk.out.below hW) HOk.out (by have := HAk.out; have := HC.out; omega) (fileW s.tt) (by rw [HFL.out]; decide) (s.sz : Int) ⟨by omega, by have := hfi.sz; omega⟩)
    have htac := DS.trim_acts dk (fileW s.tt) (s.sz : Int)
    have htok := HOk.out.trim (fileW s.tt) (s.sz : Int)
    have HCC := hid (fun W (hW : Ext wr W) => (HLr.out W (Frm.of_ext hW _)).cells)
    have HRF := hid HRE.out
    rw [htw] at HRF
    obtain ⟨f, hfe⟩ : ∃ f, f = fileW s.tt := ⟨_, rfl⟩
    rw [← hfe] at HNA HTM htac htok HRF
    obtain ⟨q, hq⟩ : ∃ q, q = dk.trim f (s.sz : Int) := ⟨_, rfl⟩
    rw [← hq] at HTM htac htok HRF
    obtain ⟨q1, q2⟩ := q
    dsimp only at htac htok HRF
    have HTAC := hid (show q2.acts.length ≤ dk.acts.length + 1 from htac)
    have HTOK := hid (show q2.Ok from htok)
    have htd : (0 : Int) < (s.tt : Int) := by omega
    clear hfi htac htok htw hfe hq HRE
    go_wp2
    have y0 : Frm (Go.Proofs.YtikjckdoldiddaaGreatDoor.grow D w4 wr) wr wr.drew := Frm.of_ext (ext_drew wr) _
    refine wp_region_held_drew (S := fun W => Frm (Go.Proofs.YtikjckdoldiddaaGreatDoor.grow D w4 wr) wr W) (by kernel_rfl) y0 (fun hH => ?_)
    clear hH c6 c7 c8
    refine held_run (i := 0) (v := .pointer (some ⟨dg, 0, none⟩)) rfl (by kernel_rfl) (by kernel_rfl) (by kernel_rfl) (fun _ _ _ h => h) (by rfl) y0 (fun W hW => ?_) ?_
    · (clear hW; go_simp)
    try simp only [Act.put, List.setIfInBounds_toArray, List.set_cons_zero, List.set_cons_succ]
    refine held_run (i := 1) (v := .pointer (some ⟨g, 0, none⟩)) rfl (by kernel_rfl) (by kernel_rfl) (by kernel_rfl) (fun _ _ _ h => h) (by rfl) y0 (fun W hW => ?_) ?_
    · (clear hW; go_simp)
    try simp only [Act.put, List.setIfInBounds_toArray, List.set_cons_zero, List.set_cons_succ]
    refine held_run (i := 2) (v := .pointer (some ⟨g, 0, none⟩)) rfl (by kernel_rfl) (by kernel_rfl) (by kernel_rfl) (fun _ _ _ h => h) (by rfl) y0 (fun W hW => ?_) ?_
    · (clear hW; go_simp)
    try simp only [Act.put, List.setIfInBounds_toArray, List.set_cons_zero, List.set_cons_succ]
    refine held_run (i := 3) (v := .pointer (some ⟨g, 7, none⟩)) rfl (by kernel_rfl) (by kernel_rfl) (by kernel_rfl) (fun _ _ _ h => h) (by rfl) y0 (fun W hW => ?_) ?_
    · (clear hW; go_simp)
    try simp only [Act.put, List.setIfInBounds_toArray, List.set_cons_zero, List.set_cons_succ]
    refine held_run (i := 4) (v := .int .i64 (s.tt : Int)) rfl (by kernel_rfl) (by kernel_rfl) (by kernel_rfl) (fun _ _ _ h => h) (by rfl) y0 (fun W hW => ?_) ?_
    · (obtain ⟨-, c6, c7, c8, -⟩ := (HLr.out W hW).cells; clear hW; go_simp)
    try simp only [Act.put, List.setIfInBounds_toArray, List.set_cons_zero, List.set_cons_succ]
    refine held_run (i := 6) (v := .pointer (some ⟨g, 0, none⟩)) rfl (by kernel_rfl) (by kernel_rfl) (by kernel_rfl) (fun _ _ _ h => h) (by rfl) y0 (fun W hW => ?_) ?_
    · (clear hW; go_simp)
    try simp only [Act.put, List.setIfInBounds_toArray, List.set_cons_zero, List.set_cons_succ]
    refine held_run (i := 7) (v := .pointer (some ⟨g, 0, none⟩)) rfl (by kernel_rfl) (by kernel_rfl) (by kernel_rfl) (fun _ _ _ h => h) (by rfl) y0 (fun W hW => ?_) ?_
    · (clear hW; go_simp)
    try simp only [Act.put, List.setIfInBounds_toArray, List.set_cons_zero, List.set_cons_succ]
    refine held_run (i := 8) (v := .pointer (some ⟨g, 8, none⟩)) rfl (by kernel_rfl) (by kernel_rfl) (by kernel_rfl) (fun _ _ _ h => h) (by rfl) y0 (fun W hW => ?_) ?_
    · (clear hW; go_simp)
    try simp only [Act.put, List.setIfInBounds_toArray, List.set_cons_zero, List.set_cons_succ]
    refine held_run (i := 9) (v := .int .i64 (s.sz : Int)) rfl (by kernel_rfl) (by kernel_rfl) (by kernel_rfl) (fun _ _ _ h => h) (by rfl) y0 (fun W hW => ?_) ?_
    · (obtain ⟨-, c6, c7, c8, -⟩ := (HLr.out W hW).cells; clear hW; go_simp)
    try simp only [Act.put, List.setIfInBounds_toArray, List.set_cons_zero, List.set_cons_succ]
    refine wpAnyH_ready (rs := [5]) (by kernel_rfl) (by simp) ?_
    refine held_cons (i := 5) rfl (fun K hK => ?_)
    go_simp
    go_at_call 61
    refine Calls.mono (HNA.out _ (ext_drew wr)) ?_
    rintro e w7 ⟨rfl, hx1⟩
    have y1 : Frm (Go.Proofs.YtikjckdoldiddaaGreatDoor.grow D w4 wr) wr w7 := Frm.of_ext ((ext_drew wr).trans' hx1) _
    have HX7 := hid ((ext_drew wr).trans' hx1)
    clear hx1
    dsimp only
    refine hK.out _ _ y1 (fun hH => ?_)
    clear hK K y0 hH
    have y0 := y1
    clear y1
    try simp only [Act.put, List.setIfInBounds_toArray, List.set_cons_zero, List.set_cons_succ]
    refine wpAnyH_ready (rs := [10]) (by kernel_rfl) (by simp) ?_
    refine held_cons (i := 10) rfl (fun K hK => ?_)
    go_simp
    go_at_call 60
    refine Calls.mono (HTM.out _ HX7.out) ?_
    rintro e w8 hE
    have HN := hid (DoPost.next HDk.out HFk.out HX7.out hE)
    have y1 : Frm (Go.Proofs.YtikjckdoldiddaaGreatDoor.grow D w4 wr) wr w8 := Frm.after_ext HX7.out hE.2.2
    obtain ⟨rfl, -, -⟩ := hE
    dsimp only
    refine hK.out _ _ y1 (fun hH => ?_)
    clear hK K y0 hH
    have y0 := y1
    clear y1
    try simp only [Act.put, List.setIfInBounds_toArray, List.set_cons_zero, List.set_cons_succ]
    refine held_run (i := 11) (v := .int .i64 q1) rfl (by kernel_rfl) (by kernel_rfl) (by kernel_rfl) (fun _ _ _ h => h) (by rfl) y0 (fun W hW => ?_) ?_
    · (clear hW; go_simp)
    try simp only [Act.put, List.setIfInBounds_toArray, List.set_cons_zero, List.set_cons_succ]
    refine wpAnyH_done (by kernel_rfl) ?_ _
    clear y0
    by_cases hq1 : q1 = 0
    · subst hq1
      have HRS := hid HRF.out
      rw [if_neg (by simp)] at HRS
      obtain ⟨-, c6, c7, c8, -⟩ := (HL4.out.keep (w' := w8) (G := fun q => w.heap.size ≤ q ∧ q < w4.heap.size ∧ q ≠ g) (HN.out.2.2.block g HL4.out.lt fun h => by have := HDL.out g h; have := HGW.out; omega) (fun q hq h2 => ⟨hq, HN.out.2.2.block q h2 fun h => by have := HDL.out q h; have := hq.1; omega⟩)).cells
      have HSY := hid (Sync_at (s := q2) HN.out.2.1 HTOK.out (by have := HTAC.out; have := HAk.out; have := HC.out; have := HKL.out; omega))
      obtain ⟨r, hr⟩ : ∃ r, r = q2.sync := ⟨_, rfl⟩
      rw [← hr] at HSY HRS
      obtain ⟨r1, r2⟩ := r
      clear hr
      go_wp2_with fail
      refine Calls.mono HSY.out ?_
      rintro e w9 hE
      have hN := DoPost.next HN.out.2.1 HN.out.2.2 (Below.refl _ _) hE
      obtain ⟨rfl, -, -⟩ := hE
      have HDN := hid (openW_done HX4.out HGW.out HDL.out HL4.out hN.2.1 hN.2.2)
      clear hN
      by_cases hr1 : r1 = 0
      · subst hr1
        go_wp2
        go_ret2
        rw [HRS.out]
        exact .inr ⟨rfl, g, rfl, HDN.out.1, HDN.out.2.2, HGW.out⟩
      have hb : (r1 != 0) = true := by simpa using hr1
      have HR1 := hid hr1
      clear hr1
      go_wp2
      go_ret2
      rw [HRS.out]
      exact .inl ⟨HR1.out, rfl, HDN.out.2.1, HDN.out.2.2⟩
    have hqb : (q1 != 0) = true := by simpa using hq1
    have HQ1 := hid hq1
    have HRS := hid (show r0 = (q1, q2) by rw [HRF.out, if_pos hq1])
    have HDN := hid (openW_done HX4.out HGW.out HDL.out HL4.out HN.out.2.1 HN.out.2.2)
    clear hq1
    go_wp2
    go_ret2
    rw [HRS.out]
    exact .inl ⟨HQ1.out, rfl, HDN.out.2.1, HDN.out.2.2⟩
  have htw : trimW s dk = (0, dk) := if_neg htt
  have HRS := hid HRE.out
  rw [htw, if_neg (by simp)] at HRS
  dsimp only at HRS
  have htd : ¬ ((0 : Int) < (s.tt : Int)) := by omega
  have htd2 : decide (0 < s.tt) = false := by simpa using htt
  clear htt HRE htw
  have HSY := hid (Sync_at (s := dk) HDk.out HOk.out (by have := HAk.out; have := HC.out; omega))
  obtain ⟨r, hr⟩ : ∃ r, r = dk.sync := ⟨_, rfl⟩
  rw [← hr] at HSY HRS
  obtain ⟨r1, r2⟩ := r
  clear hr
  go_wp2_with fail
  refine Calls.mono HSY.out ?_
  rintro e w9 hE
  have hN := DoPost.next HDk.out HFk.out (Below.refl _ _) hE
  obtain ⟨rfl, -, -⟩ := hE
  have HDN := hid (openW_done HX4.out HGW.out HDL.out HL4.out hN.2.1 hN.2.2)
  clear hN
  by_cases hr1 : r1 = 0
  · subst hr1
    go_wp2
    go_ret2
    rw [HRS.out]
    exact .inr ⟨rfl, g, rfl, HDN.out.1, HDN.out.2.2, HGW.out⟩
  have hb : (r1 != 0) = true := by simpa using hr1
  have HR1 := hid hr1
  clear hr1
  go_wp2
  go_ret2
  rw [HRS.out]
  exact .inl ⟨HR1.out, rfl, HDN.out.2.1, HDN.out.2.2⟩
end Go.Proofs.YtikjckdoldiddaaGreatDoor
