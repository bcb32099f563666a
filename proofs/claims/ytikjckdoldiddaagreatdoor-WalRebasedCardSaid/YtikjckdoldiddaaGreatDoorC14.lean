/- The walk of begin. Printed by gen_wt8.py. -/
import Derived.Test.YtikjckdoldiddaaGreatDoorC13
namespace Go.Proofs.YtikjckdoldiddaaGreatDoor
open Go.RowKit Go.Maps
set_option linter.unusedVariables false
set_option linter.unusedSimpArgs false
attribute [local go_sem] bmax2 bmin2 bmax_two bmin_two

theorem wres_row_tmp {P : Program} {fn : Func} {p u : Tmp} {ty : TypeId} (h : fn.results = #[.cell p ty, .tmp u]) (tmps : Array Value) (w : World) (g : Nat) (t : TypeId) (cs : Array Value) (fr : Nat × Nat) (d : TypeDesc)
    (hp : tmps.getD p undef = .pointer (some ⟨g, 0, none⟩)) (hg : w.heap[g]? = some (.cells cs t fr))
    (hu : P.underlying ty = some d) (hd : (match d with | .struct _ | .array _ _ => true | _ => false) = true) (hi : (P.info? ty).map (·.size) = some cs.size) :
    (results fn tmps).run P w = .ok (.tuple #[.agg cs, tmps.getD u undef]) w := by
  rw [results_cell_tmp h, hp]
  simp [asAddr, run_loadVar_row w g t ty cs fr d hg hu hd hi]
theorem five_set {w : World} {g : Nat} {x0 x1 x2 x3 x4 : Value} {t : TypeId} (h : w.heap[g]? = some (.cells #[x0, x1, x2, x3, x4] t (0, 0))) (v : Wv) (la : Option Addr) (ln lc : Nat) :
    SetG g t w (five w g v la ln lc) #[.int .i64 v.ht, .int .i64 v.hv, .int .i64 v.i, .int .i64 v.t, .slice la ln lc] :=
  (((((SetG.start h).step 0 _).step 1 _).step 2 _).step 3 _).step 4 _
def BeginPost (r : Wv × Nat) (w : World) (e : Ending) (w' : World) : Prop :=
  ∃ la ln lc, e = .returned (.tuple #[.agg #[.int .i64 r.1.ht, .int .i64 r.1.hv, .int .i64 r.1.i, .int .i64 r.1.t, .slice la ln lc], .int .i64 (r.2 : Int)]) ∧ EsF (fun q => w.heap.size ≤ q ∧ q < w'.heap.size) w' la ln lc r.1.l ∧ Ext w w'
theorem begin_retW {w W : World} {r : Wv × Nat} {tmps : Array Value} {la : Option Addr} {ln lc : Nat} (hp : tmps.getD 2 undef = .pointer (some ⟨w.heap.size, 0, none⟩)) (hu : tmps.getD 3 undef = .int .i64 (r.2 : Int))
    (hq : W.heap[w.heap.size]? = some (.cells #[.int .i64 r.1.ht, .int .i64 r.1.hv, .int .i64 r.1.i, .int .i64 r.1.t, .slice la ln lc] 62 (0, 0))) (hx : Ext w W) (hs : EsF (fun q => w.heap.size ≤ q ∧ q < W.heap.size) W la ln lc r.1.l) :
    bodyPost Tryz.prog Tryz.f103 (BeginPost r w) .ret { tmps := tmps, defers := [] } W :=
  bodyPost_ret_by (wres_row_tmp rfl _ _ w.heap.size _ _ _ (Tryz.prog.underlying 62).get! hp hq (by kernel_rfl) (by kernel_rfl) (by kernel_rfl)) rfl ⟨la, ln, lc, by rw [hu], hs, hx⟩
theorem begin_ret {w W : World} {r : Wv × Nat} {tmps : Array Value} {x0 x1 x2 x3 x4 : Value} {la : Option Addr} {ln lc : Nat} (hp : tmps.getD 2 undef = .pointer (some ⟨w.heap.size, 0, none⟩)) (hu : tmps.getD 3 undef = .int .i64 (r.2 : Int))
    (hq : W.heap[w.heap.size]? = some (.cells #[x0, x1, x2, x3, x4] 62 (0, 0))) (hx : Ext w W) (hs : EsF (fun q => w.heap.size < q ∧ q < W.heap.size) W la ln lc r.1.l) :
    bodyPost Tryz.prog Tryz.f103 (BeginPost r w) .ret { tmps := tmps, defers := [] } (five W w.heap.size r.1 la ln lc) := by
  have hS := five_set hq r.1 la ln lc
  refine bodyPost_ret_by (wres_row_tmp rfl _ _ w.heap.size _ _ _ (Tryz.prog.underlying 62).get! hp hS.obj (by kernel_rfl) (by kernel_rfl) (by kernel_rfl)) rfl ⟨la, ln, lc, by rw [hu], ?_, ext_frm hx hS.frm (fun q hq => by rw [show q = _ from hq]; exact Nat.le_refl _)⟩
  exact hs.keep fun x hx2 hl => ⟨⟨by omega, by rw [hS.size]; exact hx2.2⟩, hS.frm.block x hl (by show ¬ x = _; omega)⟩
theorem begin_none {w W : World} {tmps : Array Value} {x0 x1 x2 x3 x4 : Value} (hp : tmps.getD 2 undef = .pointer (some ⟨w.heap.size, 0, none⟩)) (hu : tmps.getD 3 undef = .int .i64 0)
    (hq : W.heap[w.heap.size]? = some (.cells #[x0, x1, x2, x3, x4] 62 (0, 0))) (hx : Ext w W) :
    bodyPost Tryz.prog Tryz.f103 (BeginPost (wv0, 0) w) .ret { tmps := tmps, defers := [] } (five W w.heap.size wv0 none 0 0) :=
  begin_ret (r := (wv0, 0)) hp hu hq hx (EsF.nil_ _ _)
theorem goWV_cons (k : Nat) (v : Wv) (b : By) (r : List By) : goWV k v (b :: r) = if b = [5] then (v, k + 2) else match v.take b with | none => (wv0, 0) | some v' => goWV (k + 1) v' r := rfl
/-- What holds of each view that records made. -/
structure Wv.Fine (v : Wv) (m : Nat) : Prop where
  i64 : In64 v.ht ∧ In64 v.hv ∧ In64 v.i ∧ In64 v.t
  big : 0 ≤ v.i ∧ v.i ≤ 1099511627776
  many : v.l.length ≤ m
  len : ∀ x ∈ v.l, x.d.length ≤ 4096
theorem within_big {n lo : Int} (h : withinS n lo = true) : lo ≤ n ∧ n ≤ 1099511627776 := by
  unfold withinS at h
  simpa using h
theorem Wv.Fine.take {v v' : Wv} {m : Nat} {b : By} (h : v.Fine m) (ht : v.take b = some v') : v'.Fine (m + 1) := by
  unfold Wv.take at ht
  dsimp only at ht
  split at ht
  · split at ht
    · rename_i h2
      injection ht with ht
      subst ht
      have hg := h2.1
      unfold goodHS at hg
      simp only [Bool.and_eq_true, decide_eq_true_eq] at hg
      have h3 := within_big hg.1.1
      exact ⟨⟨⟨by show _ ≤ ((_ : Nat) : Int); omega, by show ((_ : Nat) : Int) ≤ _; omega⟩, ⟨by show _ ≤ ((_ : Nat) : Int); omega, by show ((_ : Nat) : Int) ≤ _; omega⟩, h.i64.2.2⟩, h.big, Nat.le_succ_of_le h.many, h.len⟩
    cases ht
  split at ht
  · split at ht
    · rename_i h2
      injection ht with ht
      subst ht
      have hg := h2.1
      unfold Wv.good at hg
      simp only [Bool.and_eq_true, decide_eq_true_eq] at hg
      refine ⟨h.i64, h.big, ?_, fun x hx => ?_⟩
      · show (v.l ++ [_]).length ≤ _
        rw [List.length_append, List.length_cons, List.length_nil]
        have := h.many
        omega
      rcases List.mem_append.1 hx with hx | hx
      · exact h.len x hx
      rw [List.mem_singleton.1 hx]
      exact hg.2
    cases ht
  split at ht
  · split at ht
    · injection ht with ht
      subst ht
      refine ⟨h.i64, h.big, ?_, fun x hx => h.len x (List.mem_of_mem_take hx)⟩
      show (v.l.take _).length ≤ _
      rw [List.length_take]
      have := h.many
      omega
    cases ht
  cases ht
theorem VwAt.of {F : Nat → Prop} {w : World} {g : Nat} {v : Wv} {la : Option Addr} {ln lc m : Nat} {T : TypeId} (h : w.heap[g]? = some (.cells #[.int .i64 v.ht, .int .i64 v.hv, .int .i64 v.i, .int .i64 v.t, .slice la ln lc] T (0, 0))) (he : EsF F w la ln lc v.l) (hf : v.Fine m) (hm : m ≤ 100000000) : VwAt F w g v la ln lc := by
  obtain ⟨⟨c0, c1, c2, c3, c4⟩, -, -⟩ := vcells5 h
  exact ⟨c0, c1, c2, c3, c4, he, hf.i64, ⟨by have := hf.big; omega, hf.big.2⟩, Nat.le_trans hf.many hm⟩
theorem Soft.of {w : World} {g : Nat} {x0 x1 x2 x3 x4 : Value} {T : TypeId} (h : w.heap[g]? = some (.cells #[x0, x1, x2, x3, x4] T (0, 0))) : Soft w g := ⟨(vcells5 h).2.2, fun j _ => (vcells5 h).2.1 j⟩
set_option maxRecDepth 100000 in
set_option maxHeartbeats 8000000 in
theorem begin_any {F : Nat → Prop} {w : World} {a : Option Addr} {n c : Nat} {L : List By} (h : BsF F w a n c L) (hn : L.length ≤ 50000000) (hL : ∀ r ∈ L, r.length ≤ 1000000000) :
    Calls Tryz.prog 103 #[.slice a n c] w (BeginPost (beginW L) w) := by
  have hx1 := ext_alloc w (.cells #[.int .i64 0, .int .i64 0, .int .i64 0, .int .i64 0, .slice none 0 0] 62)
  have hx2 := ext_alloc (w.alloc (.cells #[.int .i64 0, .int .i64 0, .int .i64 0, .int .i64 0, .slice none 0 0] 62)) (.cells #[.int .i64 0, .int .i64 0, .int .i64 0, .int .i64 0, .slice none 0 0] 62)
  have hp2 := heap_alloc2_old w (.cells #[.int .i64 0, .int .i64 0, .int .i64 0, .int .i64 0, .slice none 0 0] 62) (.cells #[.int .i64 0, .int .i64 0, .int .i64 0, .int .i64 0, .slice none 0 0] 62)
  have hp4 := heap_alloc2_new w (.cells #[.int .i64 0, .int .i64 0, .int .i64 0, .int .i64 0, .slice none 0 0] 62) (.cells #[.int .i64 0, .int .i64 0, .int .i64 0, .int .i64 0, .slice none 0 0] 62)
  have hz := show ((w.alloc (.cells #[.int .i64 0, .int .i64 0, .int .i64 0, .int .i64 0, .slice none 0 0] 62)).alloc (.cells #[.int .i64 0, .int .i64 0, .int .i64 0, .int .i64 0, .slice none 0 0] 62)).heap.size = w.heap.size + 2 by rw [World.size_alloc, World.size_alloc]
  have HX2 := hid (hx1.trans' hx2)
  have HP2 := hid hp2
  have HP4 := hid hp4
  have HZ := hid hz
  have HB := hid h
  have hnl := h.1
  clear h hx1 hx2 hp2 hp4 hz
  cases L with
  | nil =>
    have hn0 : n = 0 := hnl
    subst hn0
    have hb0 : beginW [] = (wv0, 0) := rfl
    rw [hb0]
    have q2 := (vcells5 HP2.out).1
    have q4 := (vcells5 HP4.out).1
    clear hnl hb0 hn hL q2 q4
    go_enter Tryz.func103, Tryz.ntmps103
    go_wp2
    exact begin_retW (r := (wv0, 0)) rfl rfl HP2.out HX2.out (EsF.nil_ _ _)
  | cons r0 tl =>
    obtain ⟨b, ob, rfl, hbl, hl0, ra, rn, rc, q0, hr0⟩ := (HB.out.below HX2.out).at_ (k := 0) (by rw [hnl]; simp)
    have hr0 : ByF F _ ra rn rc r0 := hr0
    rw [Nat.add_zero] at q0
    have hov := Over_any hr0 (by have h1 := hr0.1; have h2 := hL r0 (List.mem_cons_self ..); omega)
    obtain ⟨ta, tm, tk, tcut1, tcut2, htail⟩ := bs_tail HB.out
    have HTL := hid htail
    have HOV := hid hov
    have HTN := hid (show tm = tl.length from htail.1)
    have HN := hid (show tl.length ≤ 50000000 by rw [List.length_cons] at hn; omega)
    have HL := hid (fun r (hr : r ∈ tl) => hL r (List.mem_cons_of_mem _ hr))
    have hn0 : n ≠ 0 := by rw [hnl]; simp
    have hnb : ((n : Int) == 0) = false := by simp; omega
    have hn1 : 0 < n := by omega
    obtain ⟨s0, hs0⟩ : ∃ s0 : Sc, s0 = ⟨r0, 0, 0⟩ := ⟨_, rfl⟩
    obtain ⟨⟨k, s1⟩, hr1⟩ : ∃ r, r = s0.num := ⟨_, rfl⟩
    obtain ⟨⟨n1, s2⟩, hr2⟩ : ∃ r, r = s1.num := ⟨_, rfl⟩
    obtain ⟨⟨n2, s3⟩, hr3⟩ : ∃ r, r = s2.num := ⟨_, rfl⟩
    obtain ⟨z, hz⟩ : ∃ z, z = s3.end_.1 := ⟨_, rfl⟩
    have hbw : beginW (r0 :: tl) = if k = 4 ∧ z = 0 ∧ withinS n1 0 = true ∧ withinS n2 0 = true then goWV 0 ⟨0, 0, n1, n2, []⟩ tl else (wv0, 0) := by
      unfold beginW
      dsimp only
      rw [← hs0, ← hr1]
      dsimp only
      rw [← hr2]
      dsimp only
      rw [← hr3]
      dsimp only
      rw [← hz]
    have hN0 := fun D W gs (h : ScAt D W gs s0) => SNumber_any h
    have hN1 := fun D W gs (h : ScAt D W gs s1) => SNumber_any h
    have hN2 := fun D W gs (h : ScAt D W gs s2) => SNumber_any h
    have hE3 := fun D W gs (h : ScAt D W gs s3) => End_any h
    rw [← hr1] at hN0
    rw [← hr2] at hN1
    rw [← hr3] at hN2
    rw [← hz] at hE3
    dsimp only at hN0 hN1 hN2
    have HN0 := hid hN0
    have HN1 := hid hN1
    have HN2 := hid hN2
    have HE3 := hid hE3
    rw [← hs0] at HOV
    obtain ⟨R, hR⟩ : ∃ R, R = beginW (r0 :: tl) := ⟨_, rfl⟩
    rw [← hR] at hbw ⊢
    have HBW := hid hbw
    clear hbw hR hN0 hN1 hN2 hE3 hr1 hr2 hr3 hz hs0 hr0 hov htail hL hn hnl hn0
    go_enter Tryz.func103, Tryz.ntmps103
    go_wp2_with fail
    generalize (w.alloc (.cells #[.int .i64 0, .int .i64 0, .int .i64 0, .int .i64 0, .slice none 0 0] 62)).alloc (.cells #[.int .i64 0, .int .i64 0, .int .i64 0, .int .i64 0, .slice none 0 0] 62) = wA at *
    obtain ⟨p4, hp4⟩ : ∃ p4, p4 = w.heap.size + 1 := ⟨_, rfl⟩
    rw [← hp4] at HP4 ⊢
    refine Calls.mono HOV.out ?_
    rintro e w1 ⟨gs, rfl, hgs, hsc, hx1⟩
    obtain ⟨D, hD⟩ : ∃ D : Nat → Prop, D = fun q => wA.heap.size ≤ q ∧ q < w1.heap.size := ⟨_, rfl⟩
    rw [← hD] at hsc
    have HDP := hid (show ∀ q, D q → p4 < q from fun q hq => by rw [hD] at hq; have h1 := hq.1; have h2 := HZ.out; omega)
    have HD := hid (show ∀ q, (q = p4 ∨ q = w.heap.size) → ¬ D q from fun q h hq => by have := HDP.out q hq; omega)
    have HPP := hid (show w.heap.size < p4 by omega)
    have HS1 := hid hsc
    have HX1 := hid (HX2.out.trans' hx1)
    have HP21 := hid ((hx1.block w.heap.size (Array.getElem?_eq_some_iff.1 HP2.out).1).trans HP2.out)
    have HP41 := hid ((hx1.block p4 (Array.getElem?_eq_some_iff.1 HP4.out).1).trans HP4.out)
    clear hsc hx1 hD hgs q0 hp4 HOV HP2 HP4 HX2 HZ
    go_wp2_with fail
    refine Calls.mono (HN0.out D w1 gs HS1.out) ?_
    rintro e w2 ⟨rfl, hs2, hf2⟩
    have HS2 := hid hs2
    have HX2 := hid (ext_frm HX1.out hf2 fun q hq => by have := HDP.out q hq; have := HPP.out; omega)
    have HP22 := hid ((hf2.block w.heap.size (Array.getElem?_eq_some_iff.1 HP21.out).1 (HD.out _ (.inr rfl))).trans HP21.out)
    have HP42 := hid ((hf2.block p4 (Array.getElem?_eq_some_iff.1 HP41.out).1 (HD.out _ (.inl rfl))).trans HP41.out)
    clear hs2 hf2
    go_wp2_with fail
    refine Calls.mono (HN1.out D w2 gs HS2.out) ?_
    rintro e w3 ⟨rfl, hs3, hf3⟩
    have HS3 := hid hs3
    have HX3 := hid (ext_frm HX2.out hf3 fun q hq => by have := HDP.out q hq; have := HPP.out; omega)
    have HP23 := hid ((hf3.block w.heap.size (Array.getElem?_eq_some_iff.1 HP22.out).1 (HD.out _ (.inr rfl))).trans HP22.out)
    have HP43 := hid ((hf3.block p4 (Array.getElem?_eq_some_iff.1 HP42.out).1 (HD.out _ (.inl rfl))).trans HP42.out)
    clear hs3 hf3
    go_wp2_with fail
    refine Calls.mono (HN2.out D w3 gs HS3.out) ?_
    rintro e w4 ⟨rfl, hs4, hf4⟩
    have HX4 := hid (ext_frm HX3.out hf4 fun q hq => by have := HDP.out q hq; have := HPP.out; omega)
    have hp24 := (hf4.block w.heap.size (Array.getElem?_eq_some_iff.1 HP23.out).1 (HD.out _ (.inr rfl))).trans HP23.out
    have hp44 := (hf4.block p4 (Array.getElem?_eq_some_iff.1 HP43.out).1 (HD.out _ (.inl rfl))).trans HP43.out
    obtain ⟨⟨c0, c1, c2, c3, c4⟩, cfz, cl⟩ := vcells5 hp44
    have f2 := cfz 2
    have f3 := cfz 3
    obtain ⟨⟨e0, e1, e2, e3, e4⟩, efz, el⟩ := vcells5 hp24
    have x0 := efz 0
    have x1 := efz 1
    have x2 := efz 2
    have x3 := efz 3
    have x4 := efz 4
    have hne : w.heap.size ≠ p4 := by have := HPP.out; omega
    have hne2 : p4 ≠ w.heap.size := by omega
    have hS := ((SetG.start hp44).step 2 (.int .i64 (n1 : Int))).step 3 (.int .i64 (n2 : Int))
    have hp45 : ((w4.setCell ⟨p4, 2, none⟩ (.int .i64 (n1 : Int))).setCell ⟨p4, 3, none⟩ (.int .i64 (n2 : Int))).heap[p4]? = some (.cells #[.int .i64 0, .int .i64 0, .int .i64 (n1 : Int), .int .i64 (n2 : Int), .slice none 0 0] 62 (0, 0)) := by have h := hS.obj; simpa using h
    have hp25 := (hS.frm.block w.heap.size (Array.getElem?_eq_some_iff.1 hp24).1 (by show ¬ _ = p4; have := HPP.out; omega)).trans hp24
    have HS5 := hid (hs4.keep (w' := (w4.setCell ⟨p4, 2, none⟩ (.int .i64 (n1 : Int))).setCell ⟨p4, 3, none⟩ (.int .i64 (n2 : Int))) fun q hq hl => hS.frm.block q hl (by show ¬ q = p4; have := HDP.out q hq; omega))
    have HX5 := hid (ext_frm HX4.out hS.frm (fun q hq => by rw [show q = p4 from hq]; have := HPP.out; omega))
    have HP45 := hid hp45
    have HP25 := hid hp25
    clear hs4 hf4 hp24 hp44 cfz efz hS hp45 hp25 HP21 HP41 HP22 HP42 HP23 HP43 HS1 HS2 HS3
    by_cases hk : k = 4
    · subst hk
      go_wp2_with fail
      generalize (w4.setCell ⟨p4, 2, none⟩ (.int .i64 (n1 : Int))).setCell ⟨p4, 3, none⟩ (.int .i64 (n2 : Int)) = w5 at *
      clear c0 c1 c2 c3 c4 cl f2 f3 e0 e1 e2 e3 e4 el x0 x1 x2 x3 x4
      refine Calls.mono (HE3.out D w5 gs HS5.out) ?_
      rintro e w6 ⟨rfl, hf6⟩
      have HX6 := hid (ext_frm HX5.out hf6 fun q hq => by have := HDP.out q hq; have := HPP.out; omega)
      have hp26 := (hf6.block w.heap.size (Array.getElem?_eq_some_iff.1 HP25.out).1 (HD.out _ (.inr rfl))).trans HP25.out
      have hp46 := (hf6.block p4 (Array.getElem?_eq_some_iff.1 HP45.out).1 (HD.out _ (.inl rfl))).trans HP45.out
      obtain ⟨⟨e0, e1, e2, e3, e4⟩, efz, el⟩ := vcells5 hp26
      have x0 := efz 0
      have x1 := efz 1
      have x2 := efz 2
      have x3 := efz 3
      have x4 := efz 4
      obtain ⟨⟨c0, c1, c2, c3, c4⟩, -, cl⟩ := vcells5 hp46
      have HP26 := hid hp26
      have HP46 := hid hp46
      clear hf6 hp26 hp46 efz HP25 HP45 HS5
      by_cases hz0 : z = 0
      · subst hz0
        cases hw1 : withinS n1 0 with
        | true =>
          cases hw2 : withinS n2 0 with
          | true =>
            have hbw := HBW.out
            rw [if_pos (by simp [hw1, hw2])] at hbw
            have HR0 := hid hbw
            have HW1 := hid hw1
            have HW2 := hid hw2
            clear hbw HBW hw1 hw2
            go_wp2_with fail
            refine Calls.mono (within_any w6 n1 0) ?_
            rintro e w7 ⟨rfl, rfl⟩
            rw [HW1.out]
            go_wp2_with fail
            refine Calls.mono (within_any w7 n2 0) ?_
            rintro e w8 ⟨rfl, rfl⟩
            rw [HW2.out]
            clear c0 c1 c2 c3 c4 cl e0 e1 e2 e3 e4 el x0 x1 x2 x3 x4
            go_wp2
            have htm63 : tm ≤ 50000000 := by have h1 := HTN.out; have h2 := HN.out; omega
            go_loopw [48] (fun z W => ∃ (j : Nat) (v : Wv) (la : Option Addr) (ln lc : Nat), j ≤ tm ∧ z = .int .i64 (j : Int) ∧ Hid (W.heap[p4]? = some (.cells #[.int .i64 v.ht, .int .i64 v.hv, .int .i64 v.i, .int .i64 v.t, .slice la ln lc] 62 (0, 0))) ∧ Hid (EsF (fun q => p4 < q ∧ q < W.heap.size) W la ln lc v.l) ∧
                Hid (R = goWV j v (tl.drop j)) ∧ Hid (v.Fine j) ∧ Hid (W.heap[w.heap.size]? = some (.cells #[.int .i64 0, .int .i64 0, .int .i64 0, .int .i64 0, .slice none 0 0] 62 (0, 0))) ∧ Hid (Ext w W)) (fun z _ => tm - (intOf z).toNat)
            case atStart =>
              have hb1 := within_big HW1.out
              have hb2 := within_big HW2.out
              exact ⟨0, ⟨0, 0, n1, n2, []⟩, none, 0, 0, Nat.zero_le _, rfl, HP46.out, EsF.nil_ _ _, HR0.out, hid ⟨⟨(show In64 0 from ⟨by decide, by decide⟩), (show In64 0 from ⟨by decide, by decide⟩), ⟨by show _ ≤ (n1 : Int); omega, by show (n1 : Int) ≤ _; omega⟩, ⟨by show _ ≤ (n2 : Int); omega, by show (n2 : Int) ≤ _; omega⟩⟩, hb1, Nat.zero_le _, fun x hx => by cases hx⟩, HP26.out, HX6.out⟩
            obtain ⟨j, v, la, ln, lc, hj, rfl, HP4j, HE, HRj, HF, HP2j, HX⟩ := hrel
            obtain ⟨⟨e0, e1, e2, e3, e4⟩, efz, el⟩ := vcells5 HP2j.out
            have x0 := efz 0
            have x1 := efz 1
            have x2 := efz 2
            have x3 := efz 3
            have x4 := efz 4
            obtain ⟨⟨c0, c1, c2, c3, c4⟩, -, cl⟩ := vcells5 HP4j.out
            clear efz
            by_cases hlt : j < tm
            · obtain ⟨rb, ro, rfl, hrbl, hrl, qa, qn, qc, q0, hr⟩ := (HTL.out.below HX.out).at_ hlt
              have hdr : tl.drop j = tl[j] :: tl.drop (j + 1) := List.drop_eq_getElem_cons hrl
              have hlen := HL.out _ (List.getElem_mem hrl)
              obtain ⟨r, hrr⟩ : ∃ r, r = tl[j] := ⟨_, rfl⟩
              rw [← hrr] at hr hdr hlen
              have hki : (0 : Int) ≤ (j : Int) := by omega
              have hki2 : (j : Int) < (tm : Int) := by omega
              have hj2 : IntKind.i64.wrap ((j : Int) + 2) = (j : Int) + 2 := IntWalk.i64_in _ ⟨by omega, by omega⟩
              have hRc := HRj.out
              rw [hdr, goWV_cons] at hRc
              have hqn := hr.1
              have hq9 : qn ≤ 1000000000 := by omega
              clear hrr hdr
              by_cases h5 : r = [5]
              · subst h5
                have hqn1 : qn = 1 := hqn
                subst hqn1
                obtain ⟨ub, uo, rfl, -, hubl, _, u0⟩ := hr.at_ (k := 0) (by decide)
                have u0 : wr.cell? ⟨ub, uo, none⟩ = some (.int .u8 5) := by simpa using u0
                rw [if_pos rfl] at hRc
                subst hRc
                have HEj := hid (HE.out.keep (w' := wr) (G := fun q => w.heap.size < q ∧ q < wr.heap.size) fun q hq hl => ⟨⟨by have h1 := hq.1; have h2 := HPP.out; omega, hq.2⟩, rfl⟩)
                clear hr hqn hlen HRj
                go_wp2
                exact begin_ret (r := (v, j + 2)) rfl rfl HP2j.out HX.out HEj.out
              rw [if_neg h5] at hRc
              have htk := take_any (F := fun q => p4 < q ∧ q < wr.heap.size) (VwAt.of HP4j.out HE.out HF.out (by omega)) (Soft.of HP4j.out) hr hq9
              have htst : ((qn : Int) == 1) = false ∨ (∃ ub uo x, qa = some ⟨ub, uo, none⟩ ∧ qn = 1 ∧ ub < wr.heap.size ∧ wr.cell? ⟨ub, uo, none⟩ = some (.int .u8 x) ∧ (x == 5) = false) := by
                by_cases h1 : qn = 1
                · right
                  obtain ⟨ub, uo, hqa, -, hubl, hul, u0⟩ := hr.at_ (k := 0) (by omega)
                  refine ⟨ub, uo, _, hqa, h1, hubl, by rw [Nat.add_zero] at u0; exact u0, ?_⟩
                  match r, hqn, h5, hul with
                  | [x], _, h5, _ =>
                    have hx : x ≠ 5 := fun e => h5 (by rw [e])
                    have hx2 : x.toNat ≠ 5 := fun e => hx (UInt8.toNat_inj.1 (by rw [e]; rfl))
                    show (((x.toNat : Nat) : Int) == 5) = false
                    simp
                    omega
                  | x :: y :: s, hqn, _, _ => simp at hqn; omega
                left
                simp
                omega
              have HTK := hid htk
              have HRC := hid hRc
              clear hRc htk h5 hr hqn hlen HRj
              rcases htst with hq1 | ⟨ub, uo, x, rfl, rfl, hubl, u0, hx5⟩
              · go_wp2_with fail
                refine Calls.mono HTK.out ?_
                rintro e w9 (⟨hno, rfl, hx9⟩ | ⟨v', hyes, rfl, w10, la', ln', lc', hx9, he9, rfl⟩)
                · have hrc := HRC.out
                  rw [hno] at hrc
                  dsimp only at hrc
                  subst hrc
                  have HX9 := hid (HX.out.trans' hx9)
                  have HP29 := hid ((hx9.block w.heap.size el).trans HP2j.out)
                  clear e0 e1 e2 e3 e4 el x0 x1 x2 x3 x4
                  obtain ⟨⟨e0, e1, e2, e3, e4⟩, efz, el⟩ := vcells5 HP29.out
                  have x0 := efz 0
                  have x1 := efz 1
                  have x2 := efz 2
                  have x3 := efz 3
                  have x4 := efz 4
                  clear efz hno hx9 c0 c1 c2 c3 c4 cl
                  go_wp2
                  exact begin_none rfl rfl HP29.out HX9.out
                have hrc := HRC.out
                rw [hyes] at hrc
                dsimp only at hrc
                have HRC2 := hid hrc
                have hp410 := (hx9.block p4 cl).trans HP4j.out
                have hS := five_set hp410 v' la' ln' lc'
                have hp210 := (hx9.block w.heap.size el).trans HP2j.out
                have HPN := hid hS.obj
                have HP2N := hid ((hS.frm.block w.heap.size (Array.getElem?_eq_some_iff.1 hp210).1 (by show ¬ _ = p4; have := HPP.out; omega)).trans hp210)
                have HXN := hid (ext_frm (HX.out.trans' hx9) hS.frm (fun q hq => by rw [show q = p4 from hq]; have := HPP.out; omega))
                have HEN := hid (he9.keep (w' := five w10 p4 v' la' ln' lc') (G := fun q => p4 < q ∧ q < (five w10 p4 v' la' ln' lc').heap.size) fun q hq hl => by
                  have h1 := hS.size
                  have h2 := hx9.size
                  have h3 := cl
                  rcases hq with hq | hq
                  · exact ⟨⟨hq.1, by omega⟩, hS.frm.block q hl (by show ¬ q = p4; omega)⟩
                  exact ⟨⟨by omega, by omega⟩, hS.frm.block q hl (by show ¬ q = p4; omega)⟩)
                have HFN := hid (HF.out.take hyes)
                generalize five w10 p4 v' la' ln' lc' = w11 at *
                clear hrc hp410 hS hp210 hx9 he9 hyes e0 e1 e2 e3 e4 el x0 x1 x2 x3 x4 c0 c1 c2 c3 c4 cl
                go_wp2
                go_roundw
                case rel => exact ⟨j + 1, v', la', ln', lc', by omega, by go_num, HPN.out, HEN.out, HRC2.out, HFN.out, HP2N.out, HXN.out⟩
                case measure => simp [intOf]; omega
              go_wp2_with fail
              refine Calls.mono HTK.out ?_
              rintro e w9 (⟨hno, rfl, hx9⟩ | ⟨v', hyes, rfl, w10, la', ln', lc', hx9, he9, rfl⟩)
              · have hrc := HRC.out
                rw [hno] at hrc
                dsimp only at hrc
                subst hrc
                have HX9 := hid (HX.out.trans' hx9)
                have HP29 := hid ((hx9.block w.heap.size el).trans HP2j.out)
                clear e0 e1 e2 e3 e4 el x0 x1 x2 x3 x4
                obtain ⟨⟨e0, e1, e2, e3, e4⟩, efz, el⟩ := vcells5 HP29.out
                have x0 := efz 0
                have x1 := efz 1
                have x2 := efz 2
                have x3 := efz 3
                have x4 := efz 4
                clear efz hno hx9 c0 c1 c2 c3 c4 cl
                go_wp2
                exact begin_none rfl rfl HP29.out HX9.out
              have hrc := HRC.out
              rw [hyes] at hrc
              dsimp only at hrc
              have HRC2 := hid hrc
              have hp410 := (hx9.block p4 cl).trans HP4j.out
              have hS := five_set hp410 v' la' ln' lc'
              have hp210 := (hx9.block w.heap.size el).trans HP2j.out
              have HPN := hid hS.obj
              have HP2N := hid ((hS.frm.block w.heap.size (Array.getElem?_eq_some_iff.1 hp210).1 (by show ¬ _ = p4; have := HPP.out; omega)).trans hp210)
              have HXN := hid (ext_frm (HX.out.trans' hx9) hS.frm (fun q hq => by rw [show q = p4 from hq]; have := HPP.out; omega))
              have HEN := hid (he9.keep (w' := five w10 p4 v' la' ln' lc') (G := fun q => p4 < q ∧ q < (five w10 p4 v' la' ln' lc').heap.size) fun q hq hl => by
                have h1 := hS.size
                have h2 := hx9.size
                have h3 := cl
                rcases hq with hq | hq
                · exact ⟨⟨hq.1, by omega⟩, hS.frm.block q hl (by show ¬ q = p4; omega)⟩
                exact ⟨⟨by omega, by omega⟩, hS.frm.block q hl (by show ¬ q = p4; omega)⟩)
              have HFN := hid (HF.out.take hyes)
              generalize five w10 p4 v' la' ln' lc' = w11 at *
              clear hrc hp410 hS hp210 hx9 he9 hyes e0 e1 e2 e3 e4 el x0 x1 x2 x3 x4 c0 c1 c2 c3 c4 cl
              go_wp2
              go_roundw
              case rel => exact ⟨j + 1, v', la', ln', lc', by omega, by go_num, HPN.out, HEN.out, HRC2.out, HFN.out, HP2N.out, HXN.out⟩
              case measure => simp [intOf]; omega
            have hki : ¬ (j : Int) < (tm : Int) := by omega
            have hdr : tl.drop j = [] := List.drop_eq_nil_of_le (by have := HTN.out; omega)
            have hRc := HRj.out
            rw [hdr] at hRc
            have hRc : R = (wv0, 0) := hRc
            subst hRc
            clear hdr HRj c0 c1 c2 c3 c4 cl hlt
            go_wp2
            exact begin_none rfl rfl HP2j.out HX.out
          | false =>
            have hbw := HBW.out
            rw [if_neg (by simp [hw2])] at hbw
            subst hbw
            have HW1 := hid hw1
            have HW2 := hid hw2
            clear hw1 hw2 HBW
            go_wp2_with fail
            refine Calls.mono (within_any w6 n1 0) ?_
            rintro e w7 ⟨rfl, rfl⟩
            rw [HW1.out]
            go_wp2_with fail
            refine Calls.mono (within_any w7 n2 0) ?_
            rintro e w8 ⟨rfl, rfl⟩
            rw [HW2.out]
            go_wp2
            exact begin_none rfl rfl HP26.out HX6.out
        | false =>
          have hbw := HBW.out
          rw [if_neg (by simp [hw1])] at hbw
          subst hbw
          have HW1 := hid hw1
          clear hw1 HBW
          go_wp2_with fail
          refine Calls.mono (within_any w6 n1 0) ?_
          rintro e w7 ⟨rfl, rfl⟩
          rw [HW1.out]
          go_wp2
          exact begin_none rfl rfl HP26.out HX6.out
      have hzb : (z != 0) = true := by simpa using hz0
      have hbw := HBW.out
      rw [if_neg (by simp [hz0])] at hbw
      subst hbw
      clear hz0 HBW
      go_wp2
      exact begin_none rfl rfl HP26.out HX6.out
    have hkb : ((k : Int) != 4) = true := by simp; omega
    have hkc : (k != 4) = true := by simpa using hk
    have hbw := HBW.out
    rw [if_neg (fun h => hk h.1)] at hbw
    subst hbw
    clear hk
    go_wp2
    exact begin_none rfl rfl HP25.out HX5.out
end Go.Proofs.YtikjckdoldiddaaGreatDoor
