/- The walk of more. Printed by gen_wm.py. -/
import Derived.Test.YtikjckdoldiddaaGreatDoorC15
namespace Go.Proofs.YtikjckdoldiddaaGreatDoor
open Go.RowKit Go.Maps
set_option linter.unusedVariables false
set_option linter.unusedSimpArgs false
attribute [local go_sem] bmax2 bmin2 bmax_two bmin_two

theorem more_cons (v : Wv) (b : By) (r : List By) : v.more (b :: r) = match v.take b with | none => (v, 0) | some v' => ((v'.more r).1, (v'.more r).2 + 1) := rfl
theorem more_none {v : Wv} {b : By} {r : List By} (h : v.take b = none) : v.more (b :: r) = (v, 0) := by rw [more_cons, h]
theorem more_some {v v' : Wv} {b : By} {r : List By} (h : v.take b = some v') : v.more (b :: r) = ((v'.more r).1, (v'.more r).2 + 1) := by rw [more_cons, h]
theorem more_le : ∀ (L : List By) (v : Wv), (v.more L).2 ≤ L.length := by
  intro L
  induction L with
  | nil => intro v; exact Nat.le_refl _
  | cons b r ih =>
    intro v
    cases h : v.take b with
    | none => rw [more_none h]; exact Nat.zero_le _
    | some v' => rw [more_some h]; have := ih v'; simp only [List.length_cons]; omega
theorem more_fine : ∀ (L : List By) (v : Wv) (m : Nat), v.Fine m → (v.more L).1.Fine (m + L.length) := by
  intro L
  induction L with
  | nil => intro v m h; exact h
  | cons b r ih =>
    intro v m h
    cases ht : v.take b with
    | none => rw [more_none ht]; exact h.le (by omega)
    | some v' => rw [more_some ht]; exact (ih v' _ (h.take ht)).le (by simp only [List.length_cons]; omega)
def MorePost (F : Nat → Prop) (g : Nat) (dp : Value) (fr tt sz bn : Nat) (v : Wv) (w : World) (e : Ending) (w' : World) : Prop :=
  e = .returned (.bool (decide (sz = bn))) ∧ LgB (fun q => F q ∨ (w.heap.size ≤ q ∧ q < w'.heap.size)) w' g dp v fr tt sz ∧ Frm (fun q => q = g) w w'
set_option maxRecDepth 100000 in
set_option maxHeartbeats 8000000 in
theorem more_any {F G : Nat → Prop} {w : World} {g : Nat} {dp : Value} {v : Wv} {fr tt sz m : Nat} (h : LgB F w g dp v fr tt sz) (hf : v.Fine m) (hF : ¬ F g) {ra : Option Addr} {rn rc : Nat} {L : List By} (hb : BsF G w ra rn rc L) (hG : ¬ G g)
    (hm : m + L.length ≤ 50000000) (hL : ∀ r ∈ L, r.length ≤ 65536) (k0 : Nat) (hk0 : k0 ≤ L.length) (ba : Option Addr) (bn bc : Nat) :
    Calls Tryz.prog 104 #[.pointer (some ⟨g, 0, none⟩), .slice ba bn bc, .slice ra rn rc, .int .i64 (k0 : Int)] w
      (MorePost F g dp fr tt (sizedB (L.take (k0 + (v.more (L.drop k0)).2))) bn (v.more (L.drop k0)).1 w) := by
  have HNL := hid hb.1
  have hrn : L.length = rn := hb.1.symm
  have HB := hid (fun W (hW : Frm (fun q => q = g) w W) => hb.keep (w' := W) (G := G) fun q hq hl => ⟨hq, hW.block q hl (fun e => hG (by have e : q = g := e; rw [← e]; exact hq))⟩)
  have HL := hid hL
  have H0 := hid h
  have HF0 := hid hf
  have HFG := hid hF
  have hm5 : m + rn ≤ 50000000 := by omega
  have hk5 : k0 ≤ rn := by omega
  obtain ⟨R, hR⟩ : ∃ R, R = v.more (L.drop k0) := ⟨_, rfl⟩
  rw [← hR]
  have HRE := hid hR
  have hRl : k0 + R.2 ≤ rn := by
    have h1 := more_le (L.drop k0) v
    rw [← hR, List.length_drop] at h1
    omega
  obtain ⟨R1, R2⟩ := R
  dsimp only at hRl ⊢
  obtain ⟨sz2, hsz2⟩ : ∃ s, s = sizedB (L.take (k0 + R2)) := ⟨_, rfl⟩
  rw [← hsz2]
  have HSZ := hid hsz2
  have hlt0 := h.lt
  have HG0 := hid hlt0
  have HGG := hid hG
  clear h hf hF hb hG hm hL hk0 hR hsz2 hrn hlt0
  go_enter Tryz.func104, Tryz.ntmps104
  go_wp2
  go_loopw [3] (fun z wr => ∃ (j : Nat) (v' : Wv), k0 + j ≤ rn ∧ z = .int .i64 ((k0 + j : Nat) : Int) ∧ Hid (LgB (fun q => F q ∨ (w.heap.size ≤ q ∧ q < wr.heap.size)) wr g dp v' fr tt sz) ∧ Hid (Frm (fun q => q = g) w wr) ∧ Hid (v'.Fine (m + j)) ∧ Hid ((R1, R2) = ((v'.more (L.drop (k0 + j))).1, (v'.more (L.drop (k0 + j))).2 + j))) (fun z _ => rn - (intOf z).toNat)
  case atStart => exact ⟨0, v, by omega, rfl, H0.out.keep rfl fun q hq _ => ⟨.inl hq, rfl⟩, Frm.refl _ _, HF0.out, HRE.out⟩
  obtain ⟨j, v', hj, rfl, HLG, HFR, HFI, HEQ⟩ := hrel
  obtain ⟨k, hk⟩ : ∃ k, k = k0 + j := ⟨_, rfl⟩
  rw [← hk] at HEQ hj ⊢
  have HK := hid hk
  clear hk
  by_cases hlt : k < rn
  · obtain ⟨b, o, rfl, hbl, hkl, a', n', c', q, hby⟩ := (HB.out wr HFR.out).at_ hlt
    have h65 := HL.out _ (List.getElem_mem hkl)
    have hdr : L.drop k = L[k] :: L.drop (k + 1) := List.drop_eq_getElem_cons hkl
    have hnb := hby.1
    have hki : ((k : Int) < (rn : Int)) := by omega
    have hjj : j ≤ rn := by have := HK.out; omega
    have HTK := hid (take_lg (HLG.out.below (ext_drew wr)) HFI.out (by omega) (show ¬ (F g ∨ (w.heap.size ≤ g ∧ g < wr.heap.size)) from fun h => by rcases h with h | h; exact HFG.out h; have := HG0.out; omega) (hby.below (ext_drew wr)) (by omega))
    generalize L[k] = p at *
    have HDR := hid hdr
    have HFT := hid (fun x (hx : v'.take p = some x) => HFI.out.take hx)
    obtain ⟨T, hT⟩ : ∃ T, T = v'.take p := ⟨_, rfl⟩
    rw [← hT] at HTK
    have HT := hid hT
    have HC := hid (fun W (hW : Frm (fun q => q = g) wr W) => (hW.cell (p := ⟨b, o + k, none⟩) hbl (fun e => HGG.out (by
      have h1 := (((HB.out wr HFR.out).2.2.2.2 _ rfl).2 k hkl).1
      have e : b = g := e
      have h1 : G b := h1
      rw [← e]; exact h1))).trans q)
    clear hby h65 hdr hnb hkl hbl hT q
    go_wp2
    have y0 : Frm (fun q => q = g) wr wr.drew := Frm.of_ext (ext_drew wr) _
    refine wp_region_held_drew (S := fun W => Frm (fun q => q = g) wr W) (by kernel_rfl) y0 (fun hH => ?_)
    clear hH
    refine held_run (i := 0) (v := .int .i64 (k : Int)) rfl (by kernel_rfl) (by kernel_rfl) (by kernel_rfl) (fun _ _ _ h => h) (by rfl) y0 (fun W hW => ?_) ?_
    · (clear hW; go_simp)
    try simp only [Act.put, List.setIfInBounds_toArray, List.set_cons_zero, List.set_cons_succ]
    refine held_run (i := 1) (v := .slice (some ⟨b, o, none⟩) rn rc) rfl (by kernel_rfl) (by kernel_rfl) (by kernel_rfl) (fun _ _ _ h => h) (by rfl) y0 (fun W hW => ?_) ?_
    · (clear hW; go_simp)
    try simp only [Act.put, List.setIfInBounds_toArray, List.set_cons_zero, List.set_cons_succ]
    refine held_run (i := 2) (v := .int .i64 (rn : Int)) rfl (by kernel_rfl) (by kernel_rfl) (by kernel_rfl) (fun _ _ _ h => h) (by rfl) y0 (fun W hW => ?_) ?_
    · (clear hW; go_simp)
    try simp only [Act.put, List.setIfInBounds_toArray, List.set_cons_zero, List.set_cons_succ]
    refine held_run (i := 3) (v := .bool true) rfl (by kernel_rfl) (by kernel_rfl) (by kernel_rfl) (fun _ _ _ h => h) (by rfl) y0 (fun W hW => ?_) ?_
    · (clear hW; go_simp)
    try simp only [Act.put, List.setIfInBounds_toArray, List.set_cons_zero, List.set_cons_succ]
    refine held_run (i := 4) (v := .bool true) rfl (by kernel_rfl) (by kernel_rfl) (by kernel_rfl) (fun _ _ _ h => h) (by rfl) y0 (fun W hW => ?_) ?_
    · (clear hW; go_simp)
    try simp only [Act.put, List.setIfInBounds_toArray, List.set_cons_zero, List.set_cons_succ]
    refine held_run (i := 5) (v := .pointer (some ⟨g, 0, none⟩)) rfl (by kernel_rfl) (by kernel_rfl) (by kernel_rfl) (fun _ _ _ h => h) (by rfl) y0 (fun W hW => ?_) ?_
    · (clear hW; go_simp)
    try simp only [Act.put, List.setIfInBounds_toArray, List.set_cons_zero, List.set_cons_succ]
    refine held_run (i := 6) (v := .pointer (some ⟨g, 0, none⟩)) rfl (by kernel_rfl) (by kernel_rfl) (by kernel_rfl) (fun _ _ _ h => h) (by rfl) y0 (fun W hW => ?_) ?_
    · (clear hW; go_simp)
    try simp only [Act.put, List.setIfInBounds_toArray, List.set_cons_zero, List.set_cons_succ]
    refine held_run (i := 7) (v := .pointer (some ⟨g, 0, none⟩)) rfl (by kernel_rfl) (by kernel_rfl) (by kernel_rfl) (fun _ _ _ h => h) (by rfl) y0 (fun W hW => ?_) ?_
    · (clear hW; go_simp)
    try simp only [Act.put, List.setIfInBounds_toArray, List.set_cons_zero, List.set_cons_succ]
    refine held_run (i := 8) (v := .slice (some ⟨b, o, none⟩) rn rc) rfl (by kernel_rfl) (by kernel_rfl) (by kernel_rfl) (fun _ _ _ h => h) (by rfl) y0 (fun W hW => ?_) ?_
    · (clear hW; go_simp)
    try simp only [Act.put, List.setIfInBounds_toArray, List.set_cons_zero, List.set_cons_succ]
    refine held_run (i := 9) (v := .int .i64 (k : Int)) rfl (by kernel_rfl) (by kernel_rfl) (by kernel_rfl) (fun _ _ _ h => h) (by rfl) y0 (fun W hW => ?_) ?_
    · (clear hW; go_simp)
    try simp only [Act.put, List.setIfInBounds_toArray, List.set_cons_zero, List.set_cons_succ]
    refine held_run (i := 10) (v := .pointer (some ⟨b, o + k, none⟩)) rfl (by kernel_rfl) (by kernel_rfl) (by kernel_rfl) (fun _ _ _ h => h) (by rfl) y0 (fun W hW => ?_) ?_
    · (clear hW; go_simp)
    try simp only [Act.put, List.setIfInBounds_toArray, List.set_cons_zero, List.set_cons_succ]
    refine held_run (i := 11) (v := .slice a' n' c') rfl (by kernel_rfl) (by kernel_rfl) (by kernel_rfl) (fun _ _ _ h => h) (by rfl) y0 (fun W hW => ?_) ?_
    · (have hc := HC.out W hW; clear hW; go_simp)
    try simp only [Act.put, List.setIfInBounds_toArray, List.set_cons_zero, List.set_cons_succ]
    cases T with
    | none =>
      have HEQ2 := hid (show R1 = v' ∧ R2 = j by have h := HEQ.out; rw [HDR.out, more_none HT.out.symm] at h; injection h with h1 h2; exact ⟨h1, by omega⟩)
      refine wpAnyH_ready (rs := [12]) (by kernel_rfl) (by simp) ?_
      refine held_cons (i := 12) rfl (fun K hK => ?_)
      go_simp
      go_at_call 137
      refine Calls.mono HTK.out ?_
      rintro e w1 (⟨-, rfl, hx1⟩ | ⟨v2, hv2, -⟩)
      rotate_left
      · cases hv2
      have y1 : Frm (fun q => q = g) wr w1 := Frm.of_ext ((ext_drew wr).trans' hx1) _
      have HX1 := hid ((ext_drew wr).trans' hx1)
      clear hx1
      dsimp only
      refine hK.out _ _ y1 (fun hH => ?_)
      clear hK K y0 hH
      have y0 := y1
      clear y1
      try simp only [Act.put, List.setIfInBounds_toArray, List.set_cons_zero, List.set_cons_succ]
      refine held_run (i := 13) (v := .bool false) rfl (by kernel_rfl) (by kernel_rfl) (by kernel_rfl) (fun _ _ _ h => h) (by rfl) y0 (fun W hW => ?_) ?_
      · (clear hW; go_simp)
      try simp only [Act.put, List.setIfInBounds_toArray, List.set_cons_zero, List.set_cons_succ]
      refine wpAnyH_done (by kernel_rfl) ?_ _
      clear y0
      skip
      have HXW := hid HX1.out
      have HFW := hid (HFR.out.then_ext HXW.out)
      have HLW := hid (show LgB (fun q => F q ∨ (w.heap.size ≤ q ∧ q < w1.heap.size)) w1 g dp v' fr tt sz from (HLG.out.below HXW.out).keep rfl fun q hq _ => ⟨by rcases hq with hq | hq; exact .inl hq; exact .inr ⟨hq.1, Nat.lt_of_lt_of_le hq.2 HXW.out.size⟩, rfl⟩)
      have HEQ2 := hid HEQ2.out
      obtain ⟨la, ln, lc, hobj, hes⟩ := HLW.out
      obtain ⟨ha, hm_, hk_, cut1, cut2, hhead⟩ := bs_head (HB.out w1 HFW.out) k (by omega)
      have HSD := hid (sized_any hhead (by rw [List.length_take]; omega) fun r hr => HL.out r (List.mem_of_mem_take hr))
      have hszk : sizedB (L.take k) = sz2 := by rw [HSZ.out, HEQ2.out.2, ← HK.out]
      rw [hszk] at HSD
      have HOBJ := hid hobj
      have HES := hid hes
      clear hobj hes hszk hhead HSZ
      go_wp2_with fail
      refine Calls.mono HSD.out ?_
      rintro e w5 ⟨rfl, hx5⟩
      have hobj5 := (hx5.block g (Array.getElem?_eq_some_iff.1 HOBJ.out).1).trans HOBJ.out
      obtain ⟨⟨-, -, -, -, -, -, -, -, c8⟩, hfz, hgl⟩ := cells9 hobj5
      have f8 := hfz 8
      have HS := hid ((SetG.start hobj5).step 8 (.int .i64 (sz2 : Int)))
      have HX5 := hid hx5
      clear hobj5 hfz hx5
      by_cases hbe : sz2 = bn
      · subst hbe
        go_wp2
        go_ret
        refine ⟨by simp, ⟨la, ln, lc, by rw [HEQ2.out.1]; exact HS.out.obj, ?_⟩, (HFW.out.then_ext HX5.out).trans HS.out.frm fun q hq => .inl hq⟩
        rw [HEQ2.out.1]
        refine (HES.out.below HX5.out).keep fun q hq hl => ⟨?_, HS.out.frm.block q hl ?_⟩
        · rcases hq with hq | hq
          · exact .inl hq
          exact .inr ⟨hq.1, by have h1 := hq.2; have h2 := HX5.out.size; have h3 := HS.out.size; omega⟩
        intro e
        have e : q = g := e
        subst e
        rcases hq with hq | hq
        · exact HFG.out hq
        have := HG0.out; omega
      have hbf : ((sz2 : Int) == (bn : Int)) = false := by simp; omega
      have HNE := hid hbe
      clear hbe
      go_wp2
      go_ret
      refine ⟨by rw [show decide (sz2 = bn) = false from by simpa using HNE.out]; rfl, ⟨la, ln, lc, by rw [HEQ2.out.1]; exact HS.out.obj, ?_⟩, (HFW.out.then_ext HX5.out).trans HS.out.frm fun q hq => .inl hq⟩
      rw [HEQ2.out.1]
      refine (HES.out.below HX5.out).keep fun q hq hl => ⟨?_, HS.out.frm.block q hl ?_⟩
      · rcases hq with hq | hq
        · exact .inl hq
        exact .inr ⟨hq.1, by have h1 := hq.2; have h2 := HX5.out.size; have h3 := HS.out.size; omega⟩
      intro e
      have e : q = g := e
      subst e
      rcases hq with hq | hq
      · exact HFG.out hq
      have := HG0.out; omega
    | some v2 =>
      refine wpAnyH_ready (rs := [12]) (by kernel_rfl) (by simp) ?_
      refine held_cons (i := 12) rfl (fun K hK => ?_)
      go_simp
      go_at_call 137
      refine Calls.mono HTK.out ?_
      rintro e w1 (⟨hn, -⟩ | ⟨v3, hv3, rfl, hl3, hf3⟩)
      · cases hn
      injection hv3 with hv3
      subst hv3
      have y1 : Frm (fun q => q = g) wr w1 := Frm.after_ext (ext_drew wr) hf3
      have HL3 := hid hl3
      have HF3 := hid y1
      clear hl3 hf3
      dsimp only
      refine hK.out _ _ y1 (fun hH => ?_)
      clear hK K y0 hH
      have y0 := y1
      clear y1
      try simp only [Act.put, List.setIfInBounds_toArray, List.set_cons_zero, List.set_cons_succ]
      refine held_run (i := 13) (v := .bool true) rfl (by kernel_rfl) (by kernel_rfl) (by kernel_rfl) (fun _ _ _ h => h) (by rfl) y0 (fun W hW => ?_) ?_
      · (clear hW; go_simp)
      try simp only [Act.put, List.setIfInBounds_toArray, List.set_cons_zero, List.set_cons_succ]
      refine wpAnyH_done (by kernel_rfl) ?_ _
      clear y0
      have HFN := hid (HFT.out v2 HT.out.symm)
      have HEN := hid (show (R1, R2) = ((v2.more (L.drop (k + 1))).1, (v2.more (L.drop (k + 1))).2 + (j + 1)) by
        have h := HEQ.out
        rw [HDR.out, more_some HT.out.symm] at h
        rw [h]
        simp only [Prod.mk.injEq, true_and]; omega)
      have HFN2 := hid (HFR.out.trans HF3.out fun q hq => .inl hq)
      have HLN := hid (show LgB (fun q => F q ∨ (w.heap.size ≤ q ∧ q < w1.heap.size)) w1 g dp v2 fr tt sz from HL3.out.keep rfl fun q hq _ => ⟨by
        have h1 := HFR.out.size
        have h2 := HF3.out.size
        rcases hq with (hq | hq) | hq
        · exact .inl hq
        · exact .inr ⟨hq.1, by omega⟩
        have h3 : wr.heap.size ≤ q := hq.1
        exact .inr ⟨by omega, hq.2⟩, rfl⟩)
      go_wp2
      go_roundw
      case rel => exact ⟨j + 1, v2, by have := HK.out; omega, by rw [← Nat.add_assoc, ← HK.out]; go_num, HLN.out, HFN2.out, HFN.out, by rw [← Nat.add_assoc, ← HK.out]; exact HEN.out⟩
      case measure => simp [intOf]; omega
  have hkn : k = rn := by omega
  have HEQ2 := hid (show R1 = v' ∧ R2 = j by
    have h := HEQ.out
    rw [List.drop_eq_nil_of_le (by have := HNL.out; omega)] at h
    injection h with h1 h2
    exact ⟨h1, by have h2 : R2 = 0 + j := h2; omega⟩)
  have hki : ¬ ((k : Int) < (rn : Int)) := by omega
  have hkd : decide ((k : Int) < (rn : Int)) = false := by simpa using hki
  clear hkn
  go_wp2
  have y0 : Frm (fun q => q = g) wr wr.drew := Frm.of_ext (ext_drew wr) _
  refine wp_region_held_drew (S := fun W => Frm (fun q => q = g) wr W) (by kernel_rfl) y0 (fun hH => ?_)
  clear hH
  refine held_run (i := 0) (v := .int .i64 (k : Int)) rfl (by kernel_rfl) (by kernel_rfl) (by kernel_rfl) (fun _ _ _ h => h) (by rfl) y0 (fun W hW => ?_) ?_
  · (clear hW; go_simp)
  try simp only [Act.put, List.setIfInBounds_toArray, List.set_cons_zero, List.set_cons_succ]
  refine held_run (i := 1) (v := .slice ra rn rc) rfl (by kernel_rfl) (by kernel_rfl) (by kernel_rfl) (fun _ _ _ h => h) (by rfl) y0 (fun W hW => ?_) ?_
  · (clear hW; go_simp)
  try simp only [Act.put, List.setIfInBounds_toArray, List.set_cons_zero, List.set_cons_succ]
  refine held_run (i := 2) (v := .int .i64 (rn : Int)) rfl (by kernel_rfl) (by kernel_rfl) (by kernel_rfl) (fun _ _ _ h => h) (by rfl) y0 (fun W hW => ?_) ?_
  · (clear hW; go_simp)
  try simp only [Act.put, List.setIfInBounds_toArray, List.set_cons_zero, List.set_cons_succ]
  refine held_run (i := 3) (v := .bool false) rfl (by kernel_rfl) (by kernel_rfl) (by kernel_rfl) (fun _ _ _ h => h) (by rfl) y0 (fun W hW => ?_) ?_
  · (clear hW; go_simp)
  try simp only [Act.put, List.setIfInBounds_toArray, List.set_cons_zero, List.set_cons_succ]
  refine held_run (i := 4) (v := .bool false) rfl (by kernel_rfl) (by kernel_rfl) (by kernel_rfl) (fun _ _ _ h => h) (by rfl) y0 (fun W hW => ?_) ?_
  · (clear hW; go_simp)
  try simp only [Act.put, List.setIfInBounds_toArray, List.set_cons_zero, List.set_cons_succ]
  refine held_skip (i := 5) rfl (by kernel_rfl) (by kernel_rfl) (by kernel_rfl) (fun _ _ _ h => h) (by rfl) y0 ?_
  try simp only [Act.put, List.setIfInBounds_toArray, List.set_cons_zero, List.set_cons_succ]
  refine held_skip (i := 6) rfl (by kernel_rfl) (by kernel_rfl) (by kernel_rfl) (fun _ _ _ h => h) (by rfl) y0 ?_
  try simp only [Act.put, List.setIfInBounds_toArray, List.set_cons_zero, List.set_cons_succ]
  refine held_skip (i := 7) rfl (by kernel_rfl) (by kernel_rfl) (by kernel_rfl) (fun _ _ _ h => h) (by rfl) y0 ?_
  try simp only [Act.put, List.setIfInBounds_toArray, List.set_cons_zero, List.set_cons_succ]
  refine held_skip (i := 8) rfl (by kernel_rfl) (by kernel_rfl) (by kernel_rfl) (fun _ _ _ h => h) (by rfl) y0 ?_
  try simp only [Act.put, List.setIfInBounds_toArray, List.set_cons_zero, List.set_cons_succ]
  refine held_skip (i := 9) rfl (by kernel_rfl) (by kernel_rfl) (by kernel_rfl) (fun _ _ _ h => h) (by rfl) y0 ?_
  try simp only [Act.put, List.setIfInBounds_toArray, List.set_cons_zero, List.set_cons_succ]
  refine held_skip (i := 10) rfl (by kernel_rfl) (by kernel_rfl) (by kernel_rfl) (fun _ _ _ h => h) (by rfl) y0 ?_
  try simp only [Act.put, List.setIfInBounds_toArray, List.set_cons_zero, List.set_cons_succ]
  refine held_skip (i := 11) rfl (by kernel_rfl) (by kernel_rfl) (by kernel_rfl) (fun _ _ _ h => h) (by rfl) y0 ?_
  try simp only [Act.put, List.setIfInBounds_toArray, List.set_cons_zero, List.set_cons_succ]
  refine held_skip (i := 12) rfl (by kernel_rfl) (by kernel_rfl) (by kernel_rfl) (fun _ _ _ h => h) (by rfl) y0 ?_
  try simp only [Act.put, List.setIfInBounds_toArray, List.set_cons_zero, List.set_cons_succ]
  refine held_run (i := 13) (v := .bool false) rfl (by kernel_rfl) (by kernel_rfl) (by kernel_rfl) (fun _ _ _ h => h) (by rfl) y0 (fun W hW => ?_) ?_
  · (clear hW; go_simp)
  try simp only [Act.put, List.setIfInBounds_toArray, List.set_cons_zero, List.set_cons_succ]
  refine wpAnyH_done (by kernel_rfl) ?_ _
  clear y0
  skip
  have HXW := hid (ext_drew wr)
  have HFW := hid (HFR.out.then_ext HXW.out)
  have HLW := hid (show LgB (fun q => F q ∨ (w.heap.size ≤ q ∧ q < wr.drew.heap.size)) wr.drew g dp v' fr tt sz from (HLG.out.below HXW.out).keep rfl fun q hq _ => ⟨by rcases hq with hq | hq; exact .inl hq; exact .inr ⟨hq.1, Nat.lt_of_lt_of_le hq.2 HXW.out.size⟩, rfl⟩)
  have HEQ2 := hid HEQ2.out
  obtain ⟨la, ln, lc, hobj, hes⟩ := HLW.out
  obtain ⟨ha, hm_, hk_, cut1, cut2, hhead⟩ := bs_head (HB.out wr.drew HFW.out) k (by omega)
  have HSD := hid (sized_any hhead (by rw [List.length_take]; omega) fun r hr => HL.out r (List.mem_of_mem_take hr))
  have hszk : sizedB (L.take k) = sz2 := by rw [HSZ.out, HEQ2.out.2, ← HK.out]
  rw [hszk] at HSD
  have HOBJ := hid hobj
  have HES := hid hes
  clear hobj hes hszk hhead HSZ
  go_wp2_with fail
  refine Calls.mono HSD.out ?_
  rintro e w5 ⟨rfl, hx5⟩
  have hobj5 := (hx5.block g (Array.getElem?_eq_some_iff.1 HOBJ.out).1).trans HOBJ.out
  obtain ⟨⟨-, -, -, -, -, -, -, -, c8⟩, hfz, hgl⟩ := cells9 hobj5
  have f8 := hfz 8
  have HS := hid ((SetG.start hobj5).step 8 (.int .i64 (sz2 : Int)))
  have HX5 := hid hx5
  clear hobj5 hfz hx5
  by_cases hbe : sz2 = bn
  · subst hbe
    go_wp2
    go_ret
    refine ⟨by simp, ⟨la, ln, lc, by rw [HEQ2.out.1]; exact HS.out.obj, ?_⟩, (HFW.out.then_ext HX5.out).trans HS.out.frm fun q hq => .inl hq⟩
    rw [HEQ2.out.1]
    refine (HES.out.below HX5.out).keep fun q hq hl => ⟨?_, HS.out.frm.block q hl ?_⟩
    · rcases hq with hq | hq
      · exact .inl hq
      exact .inr ⟨hq.1, by have h1 := hq.2; have h2 := HX5.out.size; have h3 := HS.out.size; omega⟩
    intro e
    have e : q = g := e
    subst e
    rcases hq with hq | hq
    · exact HFG.out hq
    have := HG0.out; omega
  have hbf : ((sz2 : Int) == (bn : Int)) = false := by simp; omega
  have HNE := hid hbe
  clear hbe
  go_wp2
  go_ret
  refine ⟨by rw [show decide (sz2 = bn) = false from by simpa using HNE.out]; rfl, ⟨la, ln, lc, by rw [HEQ2.out.1]; exact HS.out.obj, ?_⟩, (HFW.out.then_ext HX5.out).trans HS.out.frm fun q hq => .inl hq⟩
  rw [HEQ2.out.1]
  refine (HES.out.below HX5.out).keep fun q hq hl => ⟨?_, HS.out.frm.block q hl ?_⟩
  · rcases hq with hq | hq
    · exact .inl hq
    exact .inr ⟨hq.1, by have h1 := hq.2; have h2 := HX5.out.size; have h3 := HS.out.size; omega⟩
  intro e
  have e : q = g := e
  subst e
  rcases hq with hq | hq
  · exact HFG.out hq
  have := HG0.out; omega
end Go.Proofs.YtikjckdoldiddaaGreatDoor
