/- The walks of Read and List. -/
import Derived.Test.YtikjckdoldiddaaGreatDoorC03
import Derived.Test.YtikjckdoldiddaaGreatDoorShelf
import Derived.Sort.KeysCollected
import Derived.Deep.RegionWith
import Derived.Lib.ItoaNum
namespace Go.Proofs.YtikjckdoldiddaaGreatDoor
open Go.RowKit Go.Maps
set_option linter.unusedVariables false
set_option linter.unusedSimpArgs false
attribute [local go_sem] bmax2 bmin2 bmax_two bmin_two

/-- What Read leaves. -/
def ReadPost (s : DS) (n : Nm) (w : World) (e : Ending) (w' : World) : Prop :=
  ∃ a k c, e = .returned (.tuple #[.slice a k c, .int .i64 (s.read n).2]) ∧ ByF (fun q => w.heap.size ≤ q ∧ q < w'.heap.size) w' a k c (s.read n).1 ∧ Ext w w'

set_option maxRecDepth 100000 in
set_option maxHeartbeats 1000000 in
theorem Read_in {D : Nat → Prop} {w : World} {g : Nat} {s : DS} {ms ml : Nat} {av : Value} {H : List AcH} (h : DiskIn D w g s ms ml av H) (n : Nm) (hn : n.length ≤ maxLen) :
    Calls Tryz.prog 97 #[.pointer (some ⟨g, 0, none⟩), .string ⟨n.toArray⟩] w (ReadPost s n w) := by
  obtain ⟨-, -, -, -, -, c5, -, -, -, hgl⟩ := h.cells
  have HF := hid (find_in h n hn)
  have HI := hid h
  clear h
  unfold ReadPost DS.read
  by_cases hf : s.find n = 0
  · obtain ⟨hoff, hm, b0, hg⟩ := DS.find_zero hf
    rw [if_neg (by rw [hf]; simp)]
    have ho : tOld s.seen n = b0 := by unfold tOld; rw [hg]; rfl
    rw [ho]
    rw [hf] at HF
    have HG := hid hg
    clear hf hoff hm hg ho
    dsimp only
    go_enter Tryz.func97, Tryz.ntmps97
    go_wp2_with fail
    refine Calls.mono HF.out ?_
    rintro e w1 ⟨rfl, hx1⟩
    have cc5 := (hx1.cell (p := ⟨g, 5, none⟩) hgl).trans c5
    obtain ⟨v, hl, hv⟩ := (HI.out.seen.below hx1).look n hn
    rcases hv with ⟨e, -⟩ | ⟨d, e, p, k, c, rfl, hd⟩
    · rw [HG.out] at e; cases e
    rw [HG.out] at e; injection e with e; subst e
    have HD := hid hd
    have HX1 := hid hx1
    clear hd hx1
    go_wp2_with fail
    refine Calls.mono (cloneB_some HD.out) ?_
    rintro e w2 ⟨v, rfl, hown, hx2⟩
    obtain ⟨a, c2, rfl⟩ := hown.form
    have hk : k ≤ 140737488351232 := HD.out.2.2.1.2
    have hb := (hown.by_ hk).more (G := fun q => w.heap.size ≤ q ∧ q < w2.heap.size) fun q hq => ⟨Nat.le_trans HX1.out.size hq.1, hq.2⟩
    have HB := hid hb
    clear hown hb
    go_wp2
    go_ret2
    exact ⟨_, _, _, rfl, HB.out, Ext.trans' HX1.out hx2⟩
  rw [if_pos hf]
  have hb : (s.find n != 0) = true := by simpa using hf
  clear hf
  generalize s.find n = z at *
  go_enter Tryz.func97, Tryz.ntmps97
  go_wp2_with (go_at_call 110; refine Calls.mono HF.out ?_; rintro e w1 ⟨rfl, hx1⟩)
  go_ret2
  exact ⟨_, _, _, rfl, ByF.nil_ _ _, hx1⟩

theorem bb_lt : ∀ a b : Nm, bytesBefore a b = true → a < b := by
  intro a
  induction a with
  | nil => intro b h; cases b with
    | nil => simp [bytesBefore] at h
    | cons y s => exact List.nil_lt_cons _ _
  | cons x r ih =>
    intro b h
    cases b with
    | nil => simp [bytesBefore] at h
    | cons y s =>
      simp only [bytesBefore, Bool.or_eq_true, Bool.and_eq_true, decide_eq_true_eq, beq_iff_eq] at h
      rw [List.cons_lt_cons_iff]
      rcases h with h | ⟨rfl, h⟩
      · exact .inl h
      exact .inr ⟨rfl, ih s h⟩
theorem strKeys_dat (H : List (Nm × Value)) : Go.strKeys (dat H) = H.map Prod.fst := by
  unfold dat strKeys
  dsimp only
  rw [List.map_map]
  rfl
theorem bb_sorted {l : List Nm} (h : l.Pairwise fun x y => bytesBefore x y = true) : l.mergeSort (fun x y => decide (x ≤ y)) = l := by
  refine List.mergeSort_of_pairwise (h.imp fun {a b} hab => ?_)
  simp only [decide_eq_true_eq]
  exact List.le_of_lt (bb_lt a b hab)
/-- What List leaves. -/
def ListPost (s : DS) (w : World) (e : Ending) (w' : World) : Prop := ∃ v, e = .returned v ∧ w'.ownsRow w.heap.size 9 1 v s.list.length (s.list.map strV) ∧ Ext w w'

set_option maxHeartbeats 1000000 in
theorem List_in {D : Nat → Prop} {w : World} {g : Nat} {s : DS} {ms ml : Nat} {av : Value} {H : List AcH} (h : DiskIn D w g s ms ml av H) (hok : s.Ok) :
    Calls Tryz.prog 57 #[.pointer (some ⟨g, 0, none⟩)] w (ListPost s w) := by
  obtain ⟨c0, -, -, -, -, c5, -, -, -, hgl⟩ := h.cells
  obtain ⟨-, hTl, -, -, -⟩ := hok.run
  have hrd := ready_any c0 c5
  have HR := hid hrd
  obtain ⟨Hs, hown, htf⟩ := h.seen
  have hrise := h.seen.rise
  have hnm := htf.names
  have hlen := htf.len
  have hs := callsIn_wide.1 (Tryz.slices_Sorted_keys_106_107 ms Hs.length (dat Hs) Rh w hown (by rw [dat_size]; unfold maxLen; omega) (by rw [dat_size]; omega))
  have hk := callsIn_wide.1 (Tryz.maps_Keys_107 (some ms) w)
  have HS := hid hs
  have HK := hid hk
  unfold ListPost DS.list
  clear hrd h hown htf hs hk c0
  cases hoff : s.off with
  | true =>
    rw [hoff] at HR
    clear hoff
    rw [if_pos rfl]
    go_enter Tryz.func57, Tryz.ntmps57
    go_wp2_with (go_at_call 53; refine Calls.mono HR.out ?_; rintro e w' ⟨rfl, rfl⟩)
    go_ret
    exact ⟨_, rfl, World.ownsRow_nil _ _ _ _, Below.refl _ _⟩
  | false =>
    rw [hoff] at HR
    clear hoff
    rw [if_neg (by simp)]
    have hsrt : s.seen.Pairwise (fun p q => bytesBefore p.1 q.1 = true) := hrise
    have hsrt2 : (s.seen.map Prod.fst).Pairwise fun x y => bytesBefore x y = true := List.pairwise_map.2 hsrt
    have HSRT := hid hsrt2
    have HNM := hid hnm
    clear hrise hsrt hsrt2 hnm
    go_enter Tryz.func57, Tryz.ntmps57
    go_wp2_with fail
    refine Calls.mono HR.out ?_
    rintro e w' ⟨rfl, rfl⟩
    go_wp2_with fail
    refine Calls.mono HK.out ?_
    rintro e w1 ⟨rfl, rfl⟩
    go_wp2_with fail
    refine Calls.mono HS.out ?_
    rintro e w2 ⟨v, ss, rfl, hperm, hrow, -, hb⟩
    have hb2 : Ext w w2 := (ext_alloc w _).trans (hb.mono (by simp))
    rw [strKeys_dat, HNM.out] at hperm
    have hms : ss.mergeSort (fun x y => decide (x ≤ y)) = s.seen.map Prod.fst := (mergeSort_of_perm hperm).trans (bb_sorted HSRT.out)
    rw [hms, hperm.length_eq] at hrow
    have hrow2 : w2.ownsRow w.heap.size 9 1 v (s.seen.map Prod.fst).length ((s.seen.map Prod.fst).map strV) := by
      refine ⟨hrow.1, ?_⟩
      rcases hrow.2 with h1 | ⟨g, cap, cur, h1, h2, h3⟩
      · exact .inl h1
      exact .inr ⟨g, cap, cur, h1, by simp at h2; omega, h3⟩
    have HR2 := hid hrow2
    clear hrow hrow2 hms hperm hb
    go_wp2
    go_ret
    exact ⟨_, rfl, HR2.out, hb2⟩
end Go.Proofs.YtikjckdoldiddaaGreatDoor

/- The walks of Arm, Crash, Start, New. -/
namespace Go.Proofs.YtikjckdoldiddaaGreatDoor
open Go.RowKit Go.Maps
set_option linter.unusedVariables false
set_option linter.unusedSimpArgs false
attribute [local go_sem] bmax2 bmin2 bmax_two bmin_two

/-- Its numbers are others. -/
theorem DiskIn.nums {D : Nat → Prop} {w w' : World} {g : Nat} {s : DS} {ms ml : Nat} {av : Value} {H : List AcH} (h : DiskIn D w g s ms ml av H) {off : Bool} {left keep tear : Int}
    (hS : SetG g 76 w w' #[.bool off, .int .i64 left, .int .i64 keep, .int .i64 tear, .int .i64 s.room, .map (some ms), .map (some ml), av]) :
    DiskIn D w' g { s with off := off, left := left, keep := keep, tear := tear } ms ml av H ∧ Frm D w w' := by
  have hb : ∀ q, q < w.heap.size → q ≠ g → w'.heap[q]? = w.heap[q]? := fun q hq hn => hS.frm.block q hq hn
  have hI : ∀ q, Imm D g ms ml av q → q < w.heap.size → Imm D g ms ml av q ∧ w'.heap[q]? = w.heap[q]? := fun q hq hl => ⟨hq, hb q hl hq.2.1⟩
  have hgm := h.gms
  exact ⟨⟨hS.obj, h.seen.keep (hb ms (h.lt ms h.dms) (fun e => hgm.1 e.symm)) hI, h.last.keep (hb ml (h.lt ml h.dml) (fun e => hgm.2 e.symm)) hI, own_keep h.row fun q hq => hb q (h.lt q (h.dav q hq)) (fun e => h.gav (by rw [hq, e])), h.acts.keep hI, h.dg, h.dms, h.dml, h.dav, h.ne, h.gav,
    fun q hq => by rw [hS.size]; exact h.lt q hq⟩, hS.frm.more fun q e => by subst e; exact h.dg⟩
theorem DiskIn.frz {D : Nat → Prop} {w : World} {g : Nat} {s : DS} {ms ml : Nat} {av : Value} {H : List AcH} (h : DiskIn D w g s ms ml av H) : w.frozen? ⟨g, 0, none⟩ = false ∧ w.frozen? ⟨g, 1, none⟩ = false ∧ w.frozen? ⟨g, 2, none⟩ = false ∧ w.frozen? ⟨g, 3, none⟩ = false := by
  obtain ⟨-, -, -, -, -, -, -, -, hfz, -⟩ := h.cells
  exact ⟨hfz 0, hfz 1, hfz 2, hfz 3⟩

set_option maxHeartbeats 1000000 in
theorem Crash_in {D : Nat → Prop} {w : World} {g : Nat} {s : DS} {ms ml : Nat} {av : Value} {H : List AcH} (h : DiskIn D w g s ms ml av H) (hok : s.Ok) (hcount : s.acts.length < 1000000000000) (keep tear : Int) (hk : In64 keep) (ht : In64 tear) :
    Calls Tryz.prog 16 #[.pointer (some ⟨g, 0, none⟩), .int .i64 keep, .int .i64 tear] w (DoPost D g (s.crash keep tear) w) := by
  obtain ⟨c0, -, -, -, -, c5, -, -, -, hgl⟩ := h.cells
  have HR := hid (ready_any c0 c5)
  have HF := hid (fall_in h hok (by omega) keep tear hk ht)
  have HI := hid h
  clear h hok
  cases hoff : s.off with
  | true =>
    have hr : s.crash keep tear = (22, s) := by unfold DS.crash; simp [hoff]
    rw [hr]
    rw [hoff] at HR
    clear hr hoff c0
    go_enter Tryz.func16, Tryz.ntmps16
    go_wp2_with (go_at_call 53; refine Calls.mono HR.out ?_; rintro e w' ⟨rfl, rfl⟩)
    go_ret
    exact op_same HI.out.at_ (Below.refl _ _)
  | false =>
    have hr : s.crash keep tear = (0, s.fall keep tear) := by unfold DS.crash; simp [hoff]
    rw [hr]
    rw [hoff] at HR
    clear hr hoff c0
    go_enter Tryz.func16, Tryz.ntmps16
    go_wp2_with fail
    refine Calls.mono HR.out ?_
    rintro e w' ⟨rfl, rfl⟩
    go_wp2_with fail
    refine Calls.mono HF.out ?_
    rintro e w2 ⟨rfl, hd, hf⟩
    have HD := hid hd
    have HFF := hid hf
    clear hd hf
    go_wp2
    go_ret
    exact ⟨rfl, HD.out, HFF.out⟩

set_option maxHeartbeats 1000000 in
theorem Start_in {D : Nat → Prop} {w : World} {g : Nat} {s : DS} {ms ml : Nat} {av : Value} {H : List AcH} (h : DiskIn D w g s ms ml av H) :
    Calls Tryz.prog 17 #[.pointer (some ⟨g, 0, none⟩)] w (DoPost D g (0, s.start) w) := by
  obtain ⟨c0, -, -, -, -, c5, -, -, -, hgl⟩ := h.cells
  obtain ⟨f0, -, -, -⟩ := h.frz
  have hm := fun (r : Option Nat) (W : World) => run_eql_map_nil (P := Tryz.prog) W 73 9 37 r Tryz.underlying73
  have HI := hid h
  clear h
  go_enter Tryz.func17, Tryz.ntmps17
  go_wp2
  go_ret
  obtain ⟨r1, r2⟩ := HI.out.nums (off := false) (left := s.left) (keep := s.keep) (tear := s.tear) ((SetG.start HI.out.obj).step 0 _)
  exact ⟨rfl, r1.at_.more (fun q hq => .inl hq) (grow.lt HI.out.lt r2.size), r2⟩

/-- A new disk. -/
def DS.new (room : Int) : DS := ⟨false, 0, 0, 0, room, [], [], []⟩
theorem DS.new_ok (room : Int) (h0 : 0 ≤ room) (h1 : room ≤ 16777216) : (DS.new room).Ok :=
  ⟨List.Pairwise.nil, by simp [DS.new], trivial, rfl, h0, h1, by simp [DS.new, DS.used, tTot, aTot]; exact h0, by simp [DS.new], by simp [DS.new], (show In64 0 from ⟨by decide, by decide⟩), (show In64 0 from ⟨by decide, by decide⟩), fun h => by cases h⟩
def NewPost (room : Int) (w : World) (e : Ending) (w' : World) : Prop :=
  (0 ≤ room ∧ room ≤ 16777216 ∧ ∃ g, e = .returned (.tuple #[.pointer (some ⟨g, 0, none⟩), .int .i64 0]) ∧ DiskAt (grow (fun _ => False) w w') w' g (DS.new room) ∧ Ext w w') ∨
  (¬ (0 ≤ room ∧ room ≤ 16777216) ∧ e = .returned (.tuple #[.pointer none, .int .i64 1]) ∧ w = w')

theorem tab_empty (w : World) (F : Nat → Prop) : TabAt F (w.alloc (.map #[] 0)) w.heap.size [] := ⟨[], World.ownsMap_made w Tryz.prog 9 Rh, trivial⟩

theorem new_done (w : World) (room : Int) :
    DiskIn (grow (fun _ => False) w (((w.alloc (.map #[] 0)).alloc (.map #[] 0)).alloc (.cells #[.bool false, .int .i64 0, .int .i64 0, .int .i64 0, .int .i64 room, .map (some w.heap.size), .map (some (w.heap.size + 1)), .slice none 0 0] 76)))
      (((w.alloc (.map #[] 0)).alloc (.map #[] 0)).alloc (.cells #[.bool false, .int .i64 0, .int .i64 0, .int .i64 0, .int .i64 room, .map (some w.heap.size), .map (some (w.heap.size + 1)), .slice none 0 0] 76))
      (w.heap.size + 1 + 1) (DS.new room) w.heap.size (w.heap.size + 1) (.slice none 0 0) [] := by
  have e1 : (w.alloc (.map #[] 0)).heap.size = w.heap.size + 1 := by simp
  have e2 : ((w.alloc (.map #[] 0)).alloc (.map #[] 0)).heap.size = w.heap.size + 1 + 1 := by simp
  have t1 : TabAt (fun _ => False) (w.alloc (.map #[] 0)) w.heap.size [] := tab_empty w _
  have t2 : TabAt (fun _ => False) ((w.alloc (.map #[] 0)).alloc (.map #[] 0)) (w.heap.size + 1) [] := by
    have := tab_empty (w.alloc (.map #[] 0)) (fun _ => False)
    rw [e1] at this; exact this
  have hobj := heap_alloc_new ((w.alloc (.map #[] 0)).alloc (.map #[] 0)) (.cells #[.bool false, .int .i64 0, .int .i64 0, .int .i64 0, .int .i64 room, .map (some w.heap.size), .map (some (w.heap.size + 1)), .slice none 0 0] 76)
  rw [e2] at hobj
  have x2 := ext_alloc ((w.alloc (.map #[] 0)).alloc (.map #[] 0)) (.cells #[.bool false, .int .i64 0, .int .i64 0, .int .i64 0, .int .i64 room, .map (some w.heap.size), .map (some (w.heap.size + 1)), .slice none 0 0] 76)
  have e3 : (((w.alloc (.map #[] 0)).alloc (.map #[] 0)).alloc (.cells #[.bool false, .int .i64 0, .int .i64 0, .int .i64 0, .int .i64 room, .map (some w.heap.size), .map (some (w.heap.size + 1)), .slice none 0 0] 76)).heap.size = w.heap.size + 1 + 1 + 1 := by simp
  refine disk_done (E := fun _ => False) (F1 := fun _ => False) (F2 := fun _ => False) ?_ (.inr ⟨by omega, by omega⟩) ((t1.below (ext_alloc _ _)).below x2) (t2.below x2) (by omega) rfl hobj (.inr ⟨by omega, by omega⟩) (.inr ⟨by omega, by omega⟩) (fun q h => h.elim) (fun q h => h.elim)
  intro q hq
  rcases hq with hq | hq
  · exact hq.elim
  exact hq.2

set_option maxHeartbeats 1000000 in
theorem New_any (room : Int) (w : World) : Calls Tryz.prog 34 #[.int .i64 room] w (NewPost room w) := by
  have hmm := @run_makeMap Tryz.prog
  by_cases h0 : room < 0
  · have hr : ¬ (0 ≤ room ∧ room ≤ 16777216) := by omega
    have HR := hid hr
    clear hr
    go_enter Tryz.func34, Tryz.ntmps34
    go_wp2
    go_ret2
    exact .inr ⟨HR.out, rfl, rfl⟩
  by_cases h1 : 16777216 < room
  · have hr : ¬ (0 ≤ room ∧ room ≤ 16777216) := by omega
    have HR := hid hr
    have h0' : 0 ≤ room := by omega
    clear hr h0
    go_enter Tryz.func34, Tryz.ntmps34
    go_wp2
    go_ret2
    exact .inr ⟨HR.out, rfl, rfl⟩
  have h0' : 0 ≤ room := by omega
  have h1' : room ≤ 16777216 := by omega
  clear h0 h1
  go_enter Tryz.func34, Tryz.ntmps34
  go_wp2
  go_ret2
  refine .inl ⟨h0', h1', _, rfl, ⟨w.heap.size, w.heap.size + 1, .slice none 0 0, [], ?_⟩, ?_⟩
  · exact new_done w room
  exact Ext.trans' (Ext.trans' (ext_alloc _ _) (ext_alloc _ _)) (ext_alloc _ _)
end Go.Proofs.YtikjckdoldiddaaGreatDoor

/- The walk of the disk's Clone. -/
namespace Go.Proofs.YtikjckdoldiddaaGreatDoor
open Go.RowKit Go.Maps
set_option linter.unusedVariables false
set_option linter.unusedSimpArgs false
attribute [local go_sem] bmax2 bmin2 bmax_two bmin_two

theorem own_rowAt {w : World} {B : Nat} {e : TypeId} {sz : Nat} {a : Option Addr} {n c : Nat} {xs : List Value} (h : w.ownsRow B e sz (.slice a n c) n xs) : (a = none → c = 0) ∧ RowAt w a n sz xs := by
  rcases h.2 with ⟨hv, rfl⟩ | ⟨g, cap, cur, hv, hb, hg, hn, -⟩
  · injection hv with e1 e2 e3
    subst e1; subst e3
    exact ⟨fun _ => rfl, h.1, fun _ => rfl, fun p hp => by cases hp⟩
  injection hv with e1 e2 e3
  subst e1; subst e3
  refine ⟨(fun e => by cases e), h.1, (fun e => by cases e), fun p hp j u hu => ?_⟩
  cases hp
  rw [add_lit, Nat.zero_add, h.cellAt j (by have := (List.getElem?_eq_some_iff.1 hu).1; rw [h.1] at this; exact this)]
  exact hu

set_option maxHeartbeats 1000000 in
theorem cloneA_any {w : World} {a : Option Addr} {n c : Nat} {xs : List Value} (hown : w.ownsRow 0 117 3 (.slice a n c) n xs) (hone : ∀ u ∈ xs, u.oneCell' = true) (hn : n ≤ 1000000000000) :
    Calls Tryz.prog 101 #[.slice a n c] w fun e w' => (∃ a n c, e = .returned (.slice a n c)) ∧ Ext w w' := by
  obtain ⟨hca, hrow⟩ := own_rowAt hown
  obtain ⟨i, z, hi, hz, hz1, hz2, hz3⟩ := info_act2
  cases a with
  | none =>
    have h0 := hrow.2.1 rfl
    have hc0 := hca rfl
    subst h0; subst hc0
    have he := fun W => Lib.run_eql_slice_nil (P := Tryz.prog) W 74 117 none 0 0 0 0 Tryz.underlying74
    clear hown hrow hca hone
    go_enter Tryz.func101, Tryz.ntmps101
    go_wp2
    go_ret
    exact ⟨⟨_, _, _, rfl⟩, Below.refl _ _⟩
  | some p =>
    have he := fun W => Lib.run_eql_slice_nil (P := Tryz.prog) W 74 117 (some p) n c 0 0 Tryz.underlying74
    have HR := hid (hrow.ext (ext_alloc w (.cells #[] 117)))
    have HO := hid hone
    clear hown hrow hca hone
    go_enter Tryz.func101, Tryz.ntmps101
    go_wp2_with (at_builtin; refine wpList_append_own _ rfl (.tmp 5) (.tmp 6) _ rfl w.heap.size 117 i z 3 40 Tryz.underlying74 hi hz hz1 hz2 hz3 (by decide) (.slice (some ⟨w.heap.size, 0, none⟩) 0 0) 0 [] rfl (World.ownsRow_made w #[] 0 (Nat.le_refl _) (Nat.zero_le _) rfl) p n c xs rfl HR.out.1 (HR.out.2.2 p rfl) HO.out (by unfold maxLen; omega) (by omega) (by simp) ?_; intro v' w1 hown hg hnil)
    go_ret
    obtain ⟨a', c', hv⟩ := own_slice2 hown
    exact ⟨⟨a', _, c', by rw [← hv]; rfl⟩, (ext_alloc w _).grown hg (by simp) (by simp [Value.ownBlock])⟩

theorem AcF.one {F : Nat → Prop} {w : World} : ∀ {H : List AcH} {l : List ActS}, AcF F w H l → ∀ u ∈ rawA H, u.oneCell' = true := by
  intro H
  induction H with
  | nil => intro l _ u hu; cases hu
  | cons x H ih =>
    intro l h u hu
    cases l with
    | nil => exact h.elim
    | cons a l =>
      obtain ⟨gf, lb, hf⟩ := h.1.1.form
      simp only [rawA, List.flatMap_cons, List.mem_append] at hu
      rcases hu with hu | hu
      · simp only [AcH.cells, List.mem_cons, List.not_mem_nil, or_false] at hu
        rcases hu with rfl | rfl | rfl
        · rw [hf]; rfl
        · rfl
        rfl
      exact ih h.2 u hu

set_option maxRecDepth 100000 in
set_option maxHeartbeats 4000000 in
theorem Clone_in {D : Nat → Prop} {w : World} {g : Nat} {s : DS} {ms ml : Nat} {av : Value} {H : List AcH} (h : DiskIn D w g s ms ml av H) (hok : s.Ok) (hcount : s.acts.length < 1000000000000) :
    Calls Tryz.prog 55 #[.pointer (some ⟨g, 0, none⟩)] w fun e w' => (∃ p, e = .returned (.pointer (some p))) ∧ Ext w w' := by
  obtain ⟨c0, c1, c2, c3, c4, c5, c6, c7, -, hgl⟩ := h.cells
  obtain ⟨-, hTl, -, -, -⟩ := hok.run
  have hm := fun (r : Option Nat) (W : World) => run_eql_map_nil (P := Tryz.prog) W 73 9 37 r Tryz.underlying73
  have hlen := h.acts.len
  have hcopy : ∀ m, m = ms ∨ m = ml → ∀ W, Ext w W → Calls Tryz.prog 100 #[.map (some m)] W fun e w' => ∃ mb, e = .returned (.map (some mb)) ∧ Ext W w' := by
    intro m hmm W hW
    rcases hmm with rfl | rfl
    · exact (copied_any (h.seen.below hW) hTl).mono fun e w' ⟨mb, h1, _, _, h4⟩ => ⟨mb, h1, h4⟩
    exact (copied_any (h.last.below hW) hok.len).mono fun e w' ⟨mb, h1, _, _, h4⟩ => ⟨mb, h1, h4⟩
  obtain ⟨a, c, rfl, -, -⟩ := h.av_form
  have hcl : ∀ W, Ext w W → Calls Tryz.prog 101 #[.slice a H.length c] W fun e w' => (∃ a n c, e = .returned (.slice a n c)) ∧ Ext W w' := fun W hW =>
    cloneA_any (own_keep h.row fun q hq => hW.block q (h.lt q (h.dav q hq))) h.acts.one (by omega)
  have h8 : ∀ W, Ext w W → (W.cell? ⟨g, 0, none⟩ = some (.bool s.off) ∧ W.cell? ⟨g, 1, none⟩ = some (.int .i64 s.left) ∧ W.cell? ⟨g, 2, none⟩ = some (.int .i64 s.keep) ∧ W.cell? ⟨g, 3, none⟩ = some (.int .i64 s.tear) ∧ W.cell? ⟨g, 4, none⟩ = some (.int .i64 s.room) ∧
      W.cell? ⟨g, 5, none⟩ = some (.map (some ms)) ∧ W.cell? ⟨g, 6, none⟩ = some (.map (some ml)) ∧ W.cell? ⟨g, 7, none⟩ = some (.slice a H.length c)) := fun W hW =>
    ⟨(hW.cell (p := ⟨g, 0, none⟩) hgl).trans c0, (hW.cell (p := ⟨g, 1, none⟩) hgl).trans c1, (hW.cell (p := ⟨g, 2, none⟩) hgl).trans c2, (hW.cell (p := ⟨g, 3, none⟩) hgl).trans c3, (hW.cell (p := ⟨g, 4, none⟩) hgl).trans c4, (hW.cell (p := ⟨g, 5, none⟩) hgl).trans c5, (hW.cell (p := ⟨g, 6, none⟩) hgl).trans c6, (hW.cell (p := ⟨g, 7, none⟩) hgl).trans c7⟩
  have HC := hid hcopy
  have HL := hid hcl
  have H8 := hid h8
  have hx0 : Ext w w := Below.refl _ _
  clear hcopy hcl h8 h hok hlen
  go_enter Tryz.func55, Tryz.ntmps55
  go_wp2
  go_region_held3 (fun W => W.cell? ⟨g, 0, none⟩ = some (.bool s.off) ∧ W.cell? ⟨g, 1, none⟩ = some (.int .i64 s.left) ∧ W.cell? ⟨g, 2, none⟩ = some (.int .i64 s.keep) ∧ W.cell? ⟨g, 3, none⟩ = some (.int .i64 s.tear) ∧ W.cell? ⟨g, 4, none⟩ = some (.int .i64 s.room) ∧
      W.cell? ⟨g, 5, none⟩ = some (.map (some ms)) ∧ W.cell? ⟨g, 6, none⟩ = some (.map (some ml)) ∧ W.cell? ⟨g, 7, none⟩ = some (.slice a H.length c))
    (first | go_keep | exact H8.out _ hy | exact H8.out _ hx0 | exact H8.out _ (ext_drew _))
    (first
     | (go_at_call 100; refine Calls.mono (HC.out _ (by first | exact .inl rfl | exact .inr rfl) _ (by first | exact hy | exact hx0 | exact ext_drew w | exact Ext.trans' hy (ext_drew _))) ?_; rintro e w4 ⟨mb, rfl, hxx⟩; have hy : Ext w w4 := Ext.trans' (by first | exact hy | exact hx0 | exact ext_drew w | exact Ext.trans' hy (ext_drew _)) hxx)
     | (go_at_call 101; refine Calls.mono (HL.out _ (by first | exact hy | exact hx0 | exact ext_drew w | exact Ext.trans' hy (ext_drew _))) ?_; rintro e w4 ⟨⟨a4, n4, c4, rfl⟩, hxx⟩; have hy : Ext w w4 := Ext.trans' (by first | exact hy | exact hx0 | exact ext_drew w | exact Ext.trans' hy (ext_drew _)) hxx))
  all_goals
    go_wp2
    go_ret
    exact ⟨⟨_, rfl⟩, Ext.trans' hy (ext_alloc _ _)⟩
end Go.Proofs.YtikjckdoldiddaaGreatDoor

/- The table of powers; decimal digits. -/
namespace Go.Proofs.YtikjckdoldiddaaGreatDoor
open Go.RowKit Go.Maps
set_option linter.unusedVariables false
set_option linter.unusedSimpArgs false
attribute [local go_sem] bmax2 bmin2 bmax_two bmin_two

noncomputable def powG : Nat := (Tryz.prog.globalNamed "internal/strconv.uint64pow10").getD 0
theorem powG_eq : Tryz.prog.globalNamed "internal/strconv.uint64pow10" = some powG := by kernel_rfl
def TabP (w : World) : Prop := Lib.TabIs Tryz.prog w "internal/strconv.uint64pow10" .u64 Lib.pow10Tab
theorem TabP.lt {w : World} (h : TabP w) : powG < w.heap.size := by
  unfold TabP Lib.TabIs World.var? at h
  rw [powG_eq] at h
  simp only [Option.bind_some] at h
  rcases Nat.lt_or_ge powG w.heap.size with h' | h'
  · exact h'
  rw [Array.getElem?_eq_none h'] at h; cases h
theorem TabP.keep {w w' : World} (h : TabP w) (hk : w'.heap[powG]? = w.heap[powG]?) : TabP w' := by
  unfold TabP Lib.TabIs World.var? at h ⊢
  rw [powG_eq] at h ⊢
  simp only [Option.bind_some] at h ⊢
  rw [hk]; exact h
theorem TabP.ext {w w' : World} (h : TabP w) (hx : Ext w w') : TabP w' := h.keep (hx.block _ h.lt)
theorem TabP.frm {D : Nat → Prop} {w w' : World} (h : TabP w) (hf : Frm D w w') (hD : ¬ D powG) : TabP w' := h.keep (hf.block _ h.lt hD)

theorem ext_grow (w : World) (k : Nat) (os : Array Obj) : Ext w (Go.Sort.grow (w.drewN k) os) := by
  refine ⟨rfl, rfl, rfl, by simp [Go.Sort.grow, World.drewN], fun q hq => ?_⟩
  show (w.heap ++ os)[q]? = w.heap[q]?
  rw [Array.getElem?_append_left hq]

def valB (l : By) : Nat := l.foldl (fun a c => 10 * a + (c.toNat - 48)) 0
theorem valB_snoc (l : By) (c : UInt8) : valB (l ++ [c]) = 10 * valB l + (c.toNat - 48) := by unfold valB; rw [List.foldl_append]; rfl
theorem digit_nat {x : Nat} (h : x < 10) : (UInt8.ofNat (48 + x)).toNat = 48 + x := by
  rw [UInt8.toNat_ofNat']
  omega
theorem valB_dec : ∀ u : Nat, valB (Lib.decDigits u) = u ∧ ∀ c ∈ Lib.decDigits u, 48 ≤ c ∧ c ≤ 57 := by
  intro u
  induction u using Nat.strongRecOn with
  | _ u ih =>
    have dg : ∀ x : Nat, x < 10 → 48 ≤ UInt8.ofNat (48 + x) ∧ UInt8.ofNat (48 + x) ≤ 57 := fun x hx => by
      rw [UInt8.le_iff_toNat_le, UInt8.le_iff_toNat_le, digit_nat hx]
      exact ⟨by show 48 ≤ _; omega, by show _ ≤ 57; omega⟩
    rw [Lib.decDigits]
    split
    · rename_i h
      refine ⟨?_, fun c hc => ?_⟩
      · have := valB_snoc [] (UInt8.ofNat (48 + u))
        rw [List.nil_append] at this
        rw [this, digit_nat h]
        show 10 * 0 + _ = _
        omega
      rw [List.mem_singleton] at hc; rw [hc]; exact dg u h
    rename_i h
    obtain ⟨h1, h2⟩ := ih (u / 10) (by omega)
    refine ⟨?_, fun c hc => ?_⟩
    · rw [valB_snoc, h1, digit_nat (by omega)]; omega
    rcases List.mem_append.1 hc with hc | hc
    · exact h2 c hc
    rw [List.mem_singleton] at hc; rw [hc]; exact dg _ (by omega)
theorem valB_zeros : ∀ (k : Nat) (l : By), valB (Lib.repeatL [48] k ++ l) = valB l := by
  intro k
  induction k with
  | zero => intro l; rfl
  | succ k ih => intro l; exact ih l
theorem repeatL_mem : ∀ (k : Nat) (c : UInt8), c ∈ Lib.repeatL [48] k → c = 48 := by
  intro k
  induction k with
  | zero => intro c h; cases h
  | succ k ih =>
    intro c h
    have h : c ∈ [48] ++ Lib.repeatL [48] k := h
    rcases List.mem_append.1 h with h | h
    · simpa using h
    exact ih c h
theorem okC_digit {c : UInt8} (h : 48 ≤ c ∧ c ≤ 57) : okC c = true := by
  unfold okC
  rw [Bool.or_eq_true, Bool.or_eq_true]
  exact .inl (.inr (by rw [Bool.and_eq_true]; exact ⟨decide_eq_true h.1, decide_eq_true h.2⟩))
def digB (a : By) : Prop := ∀ c ∈ a, 48 ≤ c.toNat ∧ c.toNat ≤ 57
def accB (x : Nat) (a : By) : Nat := a.foldl (fun a c => 10 * a + (c.toNat - 48)) x
theorem accB_lt : ∀ (a b : By) (x y : Nat), a.length = b.length → digB a → digB b → x < y → accB x a < accB y b := by
  intro a
  induction a with
  | nil =>
    intro b x y hl _ _ h
    cases b with
    | nil => exact h
    | cons d b => cases hl
  | cons c a ih =>
    intro b x y hl h1 h2 h
    cases b with
    | nil => cases hl
    | cons d b =>
      have e1 := h1 c (List.mem_cons_self ..)
      have e2 := h2 d (List.mem_cons_self ..)
      exact ih b (10 * x + (c.toNat - 48)) (10 * y + (d.toNat - 48)) (by simpa using hl) (fun z hz => h1 z (List.mem_cons_of_mem _ hz)) (fun z hz => h2 z (List.mem_cons_of_mem _ hz)) (by omega)
theorem accB_bb : ∀ (a b : By) (x : Nat), a.length = b.length → digB a → digB b → bytesBefore a b = true → accB x a < accB x b := by
  intro a
  induction a with
  | nil =>
    intro b x hl _ _ h
    cases b with
    | nil => simp [bytesBefore] at h
    | cons d b => cases hl
  | cons c a ih =>
    intro b x hl h1 h2 h
    cases b with
    | nil => cases hl
    | cons d b =>
      have e1 := h1 c (List.mem_cons_self ..)
      have e2 := h2 d (List.mem_cons_self ..)
      have g1 : digB a := fun z hz => h1 z (List.mem_cons_of_mem _ hz)
      have g2 : digB b := fun z hz => h2 z (List.mem_cons_of_mem _ hz)
      have gl : a.length = b.length := by simpa using hl
      simp only [bytesBefore, Bool.or_eq_true, Bool.and_eq_true, decide_eq_true_eq, beq_iff_eq] at h
      rcases h with h | ⟨rfl, h⟩
      · rw [UInt8.lt_iff_toNat_lt] at h
        exact accB_lt a b (10 * x + (c.toNat - 48)) (10 * x + (d.toNat - 48)) gl g1 g2 (by omega)
      exact ih b _ gl g1 g2 h
theorem bb_append (p a b : Nm) : bytesBefore (p ++ a) (p ++ b) = bytesBefore a b := by
  induction p with
  | nil => rfl
  | cons x p ih =>
    have hx : (x < x) = False := eq_false (UInt8.lt_irrefl x)
    simp [bytesBefore, ih, hx]
end Go.Proofs.YtikjckdoldiddaaGreatDoor
