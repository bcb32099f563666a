/- The walk of the law's play. Printed by gen_wl6.py. -/
import Derived.Test.YtikjckdoldiddaaGreatDoorC31
import Derived.Test.YtikjckdoldiddaaGreatDoorC29
namespace Go.Proofs.YtikjckdoldiddaaGreatDoor
open Go.RowKit Go.Maps
set_option linter.unusedVariables false
set_option linter.unusedSimpArgs false
attribute [local go_sem] bmax2 bmin2 bmax_two bmin_two

theorem playV_len (v : Lo) (all : List Wv) (D : List DoW) : ∀ j, j ≤ D.length → (playV v all (D.take j)).2.length ≤ all.length + j + sumW (D.take j) := by
  intro j
  induction j with
  | zero => intro _; exact Nat.le_add_right _ _
  | succ j ih =>
    intro hj
    have hjl : j < D.length := by omega
    have h1 := ih (by omega)
    have h2 := sumW_take D j hjl
    rw [playV_take v all D j hjl]
    have h3 : (((playV v all (D.take j)).1).stepA D[j] (playV v all (D.take j)).2).length ≤ (playV v all (D.take j)).2.length + wt20 D[j].l := by
      have h4 : D[j].l.length ≤ wt20 D[j].l := by
        generalize D[j].l = l
        unfold wt20
        induction l with
        | nil => exact Nat.le_refl _
        | cons e r ih => rw [List.map_cons, List.sum_cons, List.length_cons]; omega
      unfold Lo.stepA
      split
      · omega
      split
      · split
        · exact Nat.zero_le _
        omega
      split
      · rw [List.length_append]; unfold midsTo; rw [List.length_map, List.length_range]; omega
      omega
    show (Lo.stepA _ _ _ ++ [_]).length ≤ _
    rw [List.length_append, List.length_singleton]
    omega
theorem VsR.more {F G : Nat → Prop} {B : Nat} {w : World} {v : Value} {L : List Wv} (h : VsR F B w v L) (hF : ∀ k, F k → G k) : VsR G B w v L := h.keep (fun _ _ => rfl) fun k hk _ => ⟨hF k hk, rfl⟩
theorem gcells8 {W : World} {b : Nat} {x0 x1 x2 x3 x4 x5 x6 x7 : Value} {t : TypeId} (h : W.heap[b]? = some (.cells #[x0, x1, x2, x3, x4, x5, x6, x7] t (0, 0))) :
    W.cell? ⟨b, 0, none⟩ = some x0 ∧ W.cell? ⟨b, 1, none⟩ = some x1 ∧ W.cell? ⟨b, 2, none⟩ = some x2 ∧ W.cell? ⟨b, 3, none⟩ = some x3 ∧ W.cell? ⟨b, 4, none⟩ = some x4 ∧ W.cell? ⟨b, 5, none⟩ = some x5 ∧ W.cell? ⟨b, 6, none⟩ = some x6 ∧ W.cell? ⟨b, 7, none⟩ = some x7 ∧ b < W.heap.size :=
  ⟨by simp [World.cell?, h], by simp [World.cell?, h], by simp [World.cell?, h], by simp [World.cell?, h], by simp [World.cell?, h], by simp [World.cell?, h], by simp [World.cell?, h], by simp [World.cell?, h], (Array.getElem?_eq_some_iff.1 h).1⟩
set_option maxRecDepth 100000 in
set_option maxHeartbeats 16000000 in
theorem play_any {A F0 : Nat → Prop} {w : World} {g dg : Nat} {v : Lo} {k0 m0 : Nat} {a : Option Addr} {n c : Nat} {D : List DoW} (h : LoAt A w g dg v) (hf : v.Fit k0 m0) (hk0 : k0 ≤ 1000) (hm0 : m0 ≤ 400000000) (hD : DosF F0 w a n c D) (hF0 : ∀ q, F0 q → ¬ A q)
    (hD60 : D.length ≤ 60) (hW : sumW D ≤ 131072) (hT : TabP w) (hpow : ¬ A powG) :
    Calls Tryz.prog 15 #[.pointer (some ⟨g, 0, none⟩), .slice a n c] w (PlayPost A g dg (playV v [v.s.v] D) w) := by
  have HV0 := hid (view_any h)
  have HLA := hid h
  have HAL := hid h.lt
  have HT := hid hT
  have HPOW := hid hpow
  have HDO := hid hD
  have HF0 := hid hF0
  have hn := hD.1
  have HN := hid hn
  have hn60 : n ≤ 60 := by omega
  have hall64 : ∀ d ∈ D, In64 d.t := fun d hd => by
    obtain ⟨i, hi, rfl⟩ := List.getElem_of_mem hd
    obtain ⟨b, o, -, -, -, hl, hdo⟩ := hD.at_ (k := i) (by omega)
    exact hdo.i64.2.2.2.2.1
  have HFIT := hid (fun j hj => playV_fit hf [v.s.v] D hall64 hD60 hW hk0 hm0 j hj)
  have HLEN := hid (fun j hj => playV_len v [v.s.v] D j hj)
  have HWS := hid (And.intro hk0 (And.intro hm0 hW))
  clear h hf hk0 hm0 hD hF0 hD60 hW hT hpow hn hall64
  go_enter Tryz.func15, Tryz.ntmps15
  go_wp2_with fail
  refine Calls.mono HV0.out ?_
  rintro e w1 ⟨a1, n1, c1, rfl, he1, hx1⟩
  dsimp only [vwV]
  have hpi : PlayInv A g dg w v [v.s.v] (.slice (some ⟨w1.heap.size, 0, none⟩) 1 1) (w1.alloc (.cells #[.int .i64 v.s.v.ht, .int .i64 v.s.v.hv, .int .i64 v.s.v.i, .int .i64 v.s.v.t, .slice a1 n1 c1] 42)) := by
    have hxa := ext_alloc w1 (.cells #[.int .i64 v.s.v.ht, .int .i64 v.s.v.hv, .int .i64 v.s.v.i, .int .i64 v.s.v.t, .slice a1 n1 c1] 42)
    refine ⟨A, HLA.out.below (hx1.trans' hxa), ?_, fun q hq hA => ?_, fun q hq => .inl hq, Frm.of_ext (hx1.trans' hxa) _⟩
    · exact (VsR.one (fun q => w.heap.size ≤ q ∧ q < w1.heap.size) v.s.v (a1, n1, c1) hx1.size he1 fun q hq => hq.2).more fun q hq hA => by have := HAL.out q hA; omega
    have e : some w1.heap.size = some q := hq
    injection e with e
    have := HAL.out q hA
    have := hx1.size
    omega
  have HPI0 := hid hpi
  clear he1 hx1 hpi HV0
  go_wp2
  generalize (w1.alloc (.cells #[.int .i64 v.s.v.ht, .int .i64 v.s.v.hv, .int .i64 v.s.v.i, .int .i64 v.s.v.t, .slice a1 n1 c1] 42)) = w2 at *
  obtain ⟨vb, hvb⟩ : ∃ vb, vb = w1.heap.size := ⟨_, rfl⟩
  rw [← hvb] at HPI0 ⊢
  clear hvb
  go_loopw [5, 7, 8, 9, 15, 54, 60, 66, 75] (fun x5 _ _ _ z _ _ _ _ wr => ∃ (k : Nat) (a5 : Option Addr) (n5 c5 : Nat), k ≤ n ∧ z = .int .i64 (k : Int) ∧ x5 = .slice a5 n5 c5 ∧ Hid (PlayInv A g dg w (playV v [v.s.v] (D.take k)).1 (playV v [v.s.v] (D.take k)).2 (.slice a5 n5 c5) wr)) (fun _ _ _ _ z _ _ _ _ _ => n - (intOf z).toNat)
  case atStart => exact ⟨0, some ⟨vb, 0, none⟩, 1, 1, Nat.zero_le _, rfl, rfl, HPI0.out⟩
  obtain ⟨k, a5, n5, c5, hk, rfl, rfl, HPI⟩ := hrel
  by_cases hlt : k < n
  · obtain ⟨U, hU⟩ : ∃ x, x = playV v [v.s.v] (D.take k) := ⟨_, rfl⟩
    have hfit := HFIT.out k (by rw [← HN.out]; exact hk)
    have hlen := HLEN.out k (by rw [← HN.out]; exact hk)
    have hpi := HPI.out
    rw [← hU] at hfit hlen hpi
    obtain ⟨u, L⟩ := U
    dsimp only at hfit hlen hpi
    obtain ⟨A1, l1, v1, o1, s1, f1⟩ := hpi
    have HL1 := hid l1
    have HV1 := hid v1
    have HO1 := hid o1
    have HS1 := hid s1
    have HF1 := hid f1
    have hkl : k < D.length := by rw [← HN.out]; exact hlt
    have hst := playV_take v [v.s.v] D k hkl
    rw [← hU] at hst
    have hsm : sumW (D.take (k + 1)) ≤ sumW D := by
      have e : sumW D = sumW (D.take (k + 1)) + sumW (D.drop (k + 1)) := by
        conv => lhs; rw [← List.take_append_drop (k + 1) D]
        unfold sumW; rw [List.map_append, List.sum_append]
      omega
    have hst1 := sumW_take D k hkl
    have HDW := hid (fun W (hW : Frm A w W) => HDO.out.keep (w' := W) (G := fun q => F0 q ∧ q < w.heap.size) fun q hq hl => ⟨⟨hq, hl⟩, hW.block q hl (HF0.out q hq)⟩)
    obtain ⟨b, o, rfl, hbl, -, hkl2, hdo⟩ := (HDW.out wr f1).at_ (k := k) hlt
    obtain ⟨d, hd⟩ : ∃ d, d = D[k] := ⟨_, rfl⟩
    rw [← hd] at hst hst1 hdo
    obtain ⟨di, e0, ⟨ea, en, ec, e1, hes⟩, e2, e3, e4, e5, e6, e7⟩ := hdo
    have HES := hid hes
    have HI64 := hid di
    have hw3 := wtE_20 d.l
    have HFT := hid (show u.Fit (k0 + k) 400500000 ∧ k0 + k ≤ 1060 ∧ wtE d.l ≤ 393216 from by
      have h1 := HWS.out
      exact ⟨hfit.le (Nat.le_refl _) (by omega), by omega, by omega⟩)
    have HLL := hid (show L.length ≤ 200000 ∧ d.l.length ≤ 131072 from ⟨by have h1 := HWS.out; simp only [List.length_singleton] at hlen; omega, by
      have h4 : d.l.length ≤ wt20 d.l := by
        generalize d.l = l
        unfold wt20
        induction l with
        | nil => exact Nat.le_refl _
        | cons e r ih => rw [List.map_cons, List.sum_cons, List.length_cons]; omega
      have h1 := HWS.out.2.2
      omega⟩)
    have HST := hid hst
    have HPN := hid (show ¬ A1 powG from fun h => by
      rcases s1 powG h with h | h
      · exact HPOW.out h
      have := HT.out.lt; omega)
    have HTW := hid (fun W (hW : Frm A w W) => HT.out.frm hW HPOW.out)
    obtain ⟨q, hq⟩ : ∃ q, q = d.k := ⟨_, rfl⟩
    have hq0 : 0 ≤ q ∧ q ≤ 8 := by rw [hq]; exact d.k_in
    obtain ⟨hqa, hqb⟩ := hq0
    have hqm : (IntKind.u64.wrap d.o).tmod 9 = q := hq.symm
    have HQ := hid hq
    have hk0i : (0 : Int) ≤ (k : Int) := by omega
    have HLT1 := hid l1.lt
    have hx2 := ext_alloc wr (.cells #[.int .i64 d.o, .slice ea en ec, .int .i64 d.ht, .int .i64 d.hv, .int .i64 d.n, .int .i64 d.t, .int .i64 d.kp, .int .i64 d.tr] 51)
    have hn2 := heap_alloc_new wr (.cells #[.int .i64 d.o, .slice ea en ec, .int .i64 d.ht, .int .i64 d.hv, .int .i64 d.n, .int .i64 d.t, .int .i64 d.kp, .int .i64 d.tr] 51)
    have HX2 := hid hx2
    have HN2 := hid hn2
    clear hU hfit hlen l1 v1 o1 s1 f1 hst hsm hst1 hbl hd di hes hw3 hq hx2 hn2 HPI hkl hkl2
    by_cases q3 : q = 3
    · subst q3
      have HQ3 := HQ
      have hse : u.stepL d = u.hard d.ht d.hv := by unfold Lo.stepL; rw [if_pos HQ.out.symm]
      have hsa : ∀ L : List Wv, u.stepA d L = L := fun L => by unfold Lo.stepA; rw [if_pos (by rw [← HQ.out]; omega)]
      obtain ⟨r, hr⟩ : ∃ r, r = u.hard d.ht d.hv := ⟨_, rfl⟩
      have HSTEP := hid (show playV v [v.s.v] (D.take (k + 1)) = (r.2, L ++ [r.2.s.v]) by rw [HST.out]; unfold stepP; dsimp only; rw [hse, hsa, hr])
      have HCT := hid (fun W (hW : Ext wr W) => LPut_any (HL1.out.below hW) HFT.out.1.ok (by have := HFT.out.1.acts; have := HFT.out.2.1; omega) (by have := HFT.out.1.tt; have := HFT.out.2.1; omega) (by have := HFT.out.1.sz; have := HFT.out.2.1; omega) (HTW.out W (HF1.out.then_ext hW)) HPN.out d.ht d.hv HI64.out.2.1 HI64.out.2.2.1)
      rw [← hr] at HCT
      clear hse hsa hr
      go_wp2_with fail
      generalize wr.alloc (.cells #[.int .i64 d.o, .slice ea en ec, .int .i64 d.ht, .int .i64 d.hv, .int .i64 d.n, .int .i64 d.t, .int .i64 d.kp, .int .i64 d.tr] 51) = w2 at *
      obtain ⟨p7, hp7⟩ : ∃ p, p = wr.heap.size := ⟨_, rfl⟩
      rw [← hp7] at HN2 ⊢
      have HP7 := hid (show wr.heap.size ≤ p7 from Nat.le_of_eq hp7.symm)
      clear hp7 e0 e1 e2 e3 e4 e5 e6 e7
      refine Calls.mono (HCT.out w2 HX2.out) ?_
      rintro e w3 hp
      have HPX := hid (PlayInv.log (HV1.out.ext HX2.out) HO1.out HS1.out (HF1.out.then_ext HX2.out) hp)
      obtain ⟨rfl, -, -⟩ := hp
      clear HCT
      obtain ⟨r1, r2⟩ := r
      dsimp only at HPX HSTEP
      obtain ⟨A9, t1, t2, t3, t4, t5⟩ := HPX.out
      have HVW := hid (view_any t1)
      have HA9 := hid t1.lt
      have HT1 := hid t1
      have HT2 := hid t2
      have HT3 := hid t3
      have HT4 := hid t4
      have HT5 := hid t5
      clear t1 t2 t3 t4 t5 HPX
      go_wp2_with fail
      refine Calls.mono HVW.out ?_
      rintro e wv ⟨av, nv, cv, rfl, hev, hxv⟩
      dsimp only [vwV]
      have hxa := ext_alloc wv (.cells #[.int .i64 r2.s.v.ht, .int .i64 r2.s.v.hv, .int .i64 r2.s.v.i, .int .i64 r2.s.v.t, .slice av nv cv] 42)
      have HXA := hid (hxv.trans' hxa)
      have HV9 := hid (HT2.out.ext HXA.out)
      have HCW := hid (wnews_row wv (vcell r2.s.v (av, nv, cv)) 1 5 42 rfl)
      have HY9 := hid ((hev.below hxa).more (G := Off (fun q => ¬ A9 q) (.slice a5 n5 c5)) fun q hq => ⟨fun hA => by have := HA9.out q hA; omega, fun e => by have := (HT2.out.at_ q e).2; omega⟩)
      have HB9 := hid (show w.heap.size ≤ (wv.alloc (.cells #[.int .i64 r2.s.v.ht, .int .i64 r2.s.v.hv, .int .i64 r2.s.v.i, .int .i64 r2.s.v.t, .slice av nv cv] 42)).heap.size from Nat.le_trans HT5.out.size HXA.out.size)
      have HLB := hid (show L.length ≤ 1000000000000 by have := HLL.out; omega)
      clear hev hxv hxa HVW
      go_wp2_with (at_builtin; refine wpList_appV rfl (.tmp 82) (.tmp 85) rfl (fun q => ¬ A9 q) w.heap.size (.slice a5 n5 c5) L rfl HV9.out wv.heap.size rfl r2.s.v (av, nv, cv) HCW.out HY9.out HLB.out HB9.out ?_; intro v6 w6 hv6 hf6 ho6; obtain ⟨a6, n6, c6, hv6e⟩ : ∃ a n c, v6 = .slice a n c := (by obtain ⟨a, c, h⟩ := hv6.slice_; exact ⟨a, _, c, h⟩); subst hv6e; have HP6 := hid (PlayInv.put (HT1.out.below HXA.out) HV9.out HT3.out HT4.out (HT5.out.then_ext HXA.out) hv6 hf6 ho6); clear hv6 hf6 ho6)
      go_roundw
      case rel => exact ⟨k + 1, a6, n6, c6, by omega, by go_num, rfl, by rw [HSTEP.out]; exact HP6.out⟩
      case measure => simp [intOf]; omega
    have q3b : (q == 3) = false := by simpa using q3
    by_cases q4 : q = 4
    · subst q4
      have HQ3 := HQ
      clear q3
      have hse : u.stepL d = u.cut d.n := by unfold Lo.stepL; rw [if_neg (by rw [← HQ.out]; decide), if_pos HQ.out.symm]
      have hsa : ∀ L : List Wv, u.stepA d L = L := fun L => by unfold Lo.stepA; rw [if_pos (by rw [← HQ.out]; omega)]
      obtain ⟨r, hr⟩ : ∃ r, r = u.cut d.n := ⟨_, rfl⟩
      have HSTEP := hid (show playV v [v.s.v] (D.take (k + 1)) = (r.2, L ++ [r.2.s.v]) by rw [HST.out]; unfold stepP; dsimp only; rw [hse, hsa, hr])
      have HCT := hid (fun W (hW : Ext wr W) => LCut_any (HL1.out.below hW) HFT.out.1 (by have := HFT.out.2.1; omega) (by decide) d.n HI64.out.2.2.2.1 (HTW.out W (HF1.out.then_ext hW)))
      rw [← hr] at HCT
      clear hse hsa hr
      go_wp2_with fail
      generalize wr.alloc (.cells #[.int .i64 d.o, .slice ea en ec, .int .i64 d.ht, .int .i64 d.hv, .int .i64 d.n, .int .i64 d.t, .int .i64 d.kp, .int .i64 d.tr] 51) = w2 at *
      obtain ⟨p7, hp7⟩ : ∃ p, p = wr.heap.size := ⟨_, rfl⟩
      rw [← hp7] at HN2 ⊢
      have HP7 := hid (show wr.heap.size ≤ p7 from Nat.le_of_eq hp7.symm)
      clear hp7 e0 e1 e2 e3 e4 e5 e6 e7
      refine Calls.mono (HCT.out w2 HX2.out) ?_
      rintro e w3 hp
      have HPX := hid (PlayInv.log (HV1.out.ext HX2.out) HO1.out HS1.out (HF1.out.then_ext HX2.out) hp)
      obtain ⟨rfl, -, -⟩ := hp
      clear HCT
      obtain ⟨r1, r2⟩ := r
      dsimp only at HPX HSTEP
      obtain ⟨A9, t1, t2, t3, t4, t5⟩ := HPX.out
      have HVW := hid (view_any t1)
      have HA9 := hid t1.lt
      have HT1 := hid t1
      have HT2 := hid t2
      have HT3 := hid t3
      have HT4 := hid t4
      have HT5 := hid t5
      clear t1 t2 t3 t4 t5 HPX
      go_wp2_with fail
      refine Calls.mono HVW.out ?_
      rintro e wv ⟨av, nv, cv, rfl, hev, hxv⟩
      dsimp only [vwV]
      have hxa := ext_alloc wv (.cells #[.int .i64 r2.s.v.ht, .int .i64 r2.s.v.hv, .int .i64 r2.s.v.i, .int .i64 r2.s.v.t, .slice av nv cv] 42)
      have HXA := hid (hxv.trans' hxa)
      have HV9 := hid (HT2.out.ext HXA.out)
      have HCW := hid (wnews_row wv (vcell r2.s.v (av, nv, cv)) 1 5 42 rfl)
      have HY9 := hid ((hev.below hxa).more (G := Off (fun q => ¬ A9 q) (.slice a5 n5 c5)) fun q hq => ⟨fun hA => by have := HA9.out q hA; omega, fun e => by have := (HT2.out.at_ q e).2; omega⟩)
      have HB9 := hid (show w.heap.size ≤ (wv.alloc (.cells #[.int .i64 r2.s.v.ht, .int .i64 r2.s.v.hv, .int .i64 r2.s.v.i, .int .i64 r2.s.v.t, .slice av nv cv] 42)).heap.size from Nat.le_trans HT5.out.size HXA.out.size)
      have HLB := hid (show L.length ≤ 1000000000000 by have := HLL.out; omega)
      clear hev hxv hxa HVW
      go_wp2_with (at_builtin; refine wpList_appV rfl (.tmp 82) (.tmp 85) rfl (fun q => ¬ A9 q) w.heap.size (.slice a5 n5 c5) L rfl HV9.out wv.heap.size rfl r2.s.v (av, nv, cv) HCW.out HY9.out HLB.out HB9.out ?_; intro v6 w6 hv6 hf6 ho6; obtain ⟨a6, n6, c6, hv6e⟩ : ∃ a n c, v6 = .slice a n c := (by obtain ⟨a, c, h⟩ := hv6.slice_; exact ⟨a, _, c, h⟩); subst hv6e; have HP6 := hid (PlayInv.put (HT1.out.below HXA.out) HV9.out HT3.out HT4.out (HT5.out.then_ext HXA.out) hv6 hf6 ho6); clear hv6 hf6 ho6)
      go_roundw
      case rel => exact ⟨k + 1, a6, n6, c6, by omega, by go_num, rfl, by rw [HSTEP.out]; exact HP6.out⟩
      case measure => simp [intOf]; omega
    have q4b : (q == 4) = false := by simpa using q4
    by_cases q5 : q = 5
    · subst q5
      have hse : u.stepL d = u.rebase d.n d.t := by unfold Lo.stepL; rw [if_neg (by rw [← HQ.out]; decide), if_neg (by rw [← HQ.out]; decide), if_pos HQ.out.symm]
      have hsa : ∀ L : List Wv, u.stepA d L = if (u.stepL d).1 = 0 then [] else L := fun L => by unfold Lo.stepA; rw [if_neg (by rw [← HQ.out]; omega), if_pos (by rw [← HQ.out]; omega)]
      obtain ⟨r, hr⟩ : ∃ r, r = u.rebase d.n d.t := ⟨_, rfl⟩
      have HSTEP0 := hid (show playV v [v.s.v] (D.take (k + 1)) = (r.2, (if r.1 = 0 then [] else L) ++ [r.2.s.v]) by rw [HST.out]; unfold stepP; dsimp only; rw [hsa, hse, hr])
      have HCT := hid (fun W (hW : Ext wr W) => LRebase_any (HL1.out.below hW) HFT.out.1 (by have := HFT.out.2.1; omega) (by decide) d.n d.t HI64.out.2.2.2.1 HI64.out.2.2.2.2.1 (HTW.out W (HF1.out.then_ext hW)) HPN.out)
      rw [← hr] at HCT
      clear hse hsa hr q3 q4
      go_wp2_with fail
      generalize wr.alloc (.cells #[.int .i64 d.o, .slice ea en ec, .int .i64 d.ht, .int .i64 d.hv, .int .i64 d.n, .int .i64 d.t, .int .i64 d.kp, .int .i64 d.tr] 51) = w2 at *
      obtain ⟨p7, hp7⟩ : ∃ p, p = wr.heap.size := ⟨_, rfl⟩
      rw [← hp7] at HN2 ⊢
      have HP7 := hid (show wr.heap.size ≤ p7 from Nat.le_of_eq hp7.symm)
      clear hp7 e0 e1 e2 e3 e4 e5 e6 e7
      refine Calls.mono (HCT.out w2 HX2.out) ?_
      rintro e w3 hp
      have HPX := hid (PlayInv.log (HV1.out.ext HX2.out) HO1.out HS1.out (HF1.out.then_ext HX2.out) hp)
      obtain ⟨rfl, -, -⟩ := hp
      clear HCT
      obtain ⟨r1, r2⟩ := r
      dsimp only at HPX HSTEP0
      dsimp only
      by_cases hr1 : r1 = 0
      · subst hr1
        have HSTEP := hid (show playV v [v.s.v] (D.take (k + 1)) = (r2, [] ++ [r2.s.v]) by rw [HSTEP0.out, if_pos rfl])
        have HPX := hid HPX.out.nil
        obtain ⟨A9, t1, t2, t3, t4, t5⟩ := HPX.out
        have HVW := hid (view_any t1)
        have HA9 := hid t1.lt
        have HT1 := hid t1
        have HT2 := hid t2
        have HT3 := hid t3
        have HT4 := hid t4
        have HT5 := hid t5
        clear t1 t2 t3 t4 t5 HPX
        go_wp2_with fail
        refine Calls.mono HVW.out ?_
        rintro e wv ⟨av, nv, cv, rfl, hev, hxv⟩
        dsimp only [vwV]
        have hxa := ext_alloc wv (.cells #[.int .i64 r2.s.v.ht, .int .i64 r2.s.v.hv, .int .i64 r2.s.v.i, .int .i64 r2.s.v.t, .slice av nv cv] 42)
        have HXA := hid (hxv.trans' hxa)
        have HV9 := hid (HT2.out.ext HXA.out)
        have HCW := hid (wnews_row wv (vcell r2.s.v (av, nv, cv)) 1 5 42 rfl)
        have HY9 := hid ((hev.below hxa).more (G := Off (fun q => ¬ A9 q) (.slice none 0 0)) fun q hq => ⟨fun hA => by have := HA9.out q hA; omega, fun e => by have := (HT2.out.at_ q e).2; omega⟩)
        have HB9 := hid (show w.heap.size ≤ (wv.alloc (.cells #[.int .i64 r2.s.v.ht, .int .i64 r2.s.v.hv, .int .i64 r2.s.v.i, .int .i64 r2.s.v.t, .slice av nv cv] 42)).heap.size from Nat.le_trans HT5.out.size HXA.out.size)
        have HLB := hid (show ([] : List Wv).length ≤ 1000000000000 by decide)
        clear hev hxv hxa HVW
        go_wp2_with (at_builtin; refine wpList_appV rfl (.tmp 82) (.tmp 85) rfl (fun q => ¬ A9 q) w.heap.size (.slice none 0 0) ([] : List Wv) rfl HV9.out wv.heap.size rfl r2.s.v (av, nv, cv) HCW.out HY9.out HLB.out HB9.out ?_; intro v6 w6 hv6 hf6 ho6; obtain ⟨a6, n6, c6, hv6e⟩ : ∃ a n c, v6 = .slice a n c := (by obtain ⟨a, c, h⟩ := hv6.slice_; exact ⟨a, _, c, h⟩); subst hv6e; have HP6 := hid (PlayInv.put (HT1.out.below HXA.out) HV9.out HT3.out HT4.out (HT5.out.then_ext HXA.out) hv6 hf6 ho6); clear hv6 hf6 ho6)
        go_roundw
        case rel => exact ⟨k + 1, a6, n6, c6, by omega, by go_num, rfl, by rw [HSTEP.out]; exact HP6.out⟩
        case measure => simp [intOf]; omega
      have hb : (r1 == 0) = false := by simpa using hr1
      have HSTEP := hid (show playV v [v.s.v] (D.take (k + 1)) = (r2, L ++ [r2.s.v]) by rw [HSTEP0.out, if_neg hr1])
      clear hr1
      obtain ⟨A9, t1, t2, t3, t4, t5⟩ := HPX.out
      have HVW := hid (view_any t1)
      have HA9 := hid t1.lt
      have HT1 := hid t1
      have HT2 := hid t2
      have HT3 := hid t3
      have HT4 := hid t4
      have HT5 := hid t5
      clear t1 t2 t3 t4 t5 HPX
      go_wp2_with fail
      refine Calls.mono HVW.out ?_
      rintro e wv ⟨av, nv, cv, rfl, hev, hxv⟩
      dsimp only [vwV]
      have hxa := ext_alloc wv (.cells #[.int .i64 r2.s.v.ht, .int .i64 r2.s.v.hv, .int .i64 r2.s.v.i, .int .i64 r2.s.v.t, .slice av nv cv] 42)
      have HXA := hid (hxv.trans' hxa)
      have HV9 := hid (HT2.out.ext HXA.out)
      have HCW := hid (wnews_row wv (vcell r2.s.v (av, nv, cv)) 1 5 42 rfl)
      have HY9 := hid ((hev.below hxa).more (G := Off (fun q => ¬ A9 q) (.slice a5 n5 c5)) fun q hq => ⟨fun hA => by have := HA9.out q hA; omega, fun e => by have := (HT2.out.at_ q e).2; omega⟩)
      have HB9 := hid (show w.heap.size ≤ (wv.alloc (.cells #[.int .i64 r2.s.v.ht, .int .i64 r2.s.v.hv, .int .i64 r2.s.v.i, .int .i64 r2.s.v.t, .slice av nv cv] 42)).heap.size from Nat.le_trans HT5.out.size HXA.out.size)
      have HLB := hid (show L.length ≤ 1000000000000 by have := HLL.out; omega)
      clear hev hxv hxa HVW
      go_wp2_with (at_builtin; refine wpList_appV rfl (.tmp 82) (.tmp 85) rfl (fun q => ¬ A9 q) w.heap.size (.slice a5 n5 c5) L rfl HV9.out wv.heap.size rfl r2.s.v (av, nv, cv) HCW.out HY9.out HLB.out HB9.out ?_; intro v6 w6 hv6 hf6 ho6; obtain ⟨a6, n6, c6, hv6e⟩ : ∃ a n c, v6 = .slice a n c := (by obtain ⟨a, c, h⟩ := hv6.slice_; exact ⟨a, _, c, h⟩); subst hv6e; have HP6 := hid (PlayInv.put (HT1.out.below HXA.out) HV9.out HT3.out HT4.out (HT5.out.then_ext HXA.out) hv6 hf6 ho6); clear hv6 hf6 ho6)
      go_roundw
      case rel => exact ⟨k + 1, a6, n6, c6, by omega, by go_num, rfl, by rw [HSTEP.out]; exact HP6.out⟩
      case measure => simp [intOf]; omega
    have q5b : (q == 5) = false := by simpa using q5
    by_cases q6 : q = 6
    · subst q6
      have hse : u.stepL d = u.sync := by unfold Lo.stepL; rw [if_neg (by rw [← HQ.out]; decide), if_neg (by rw [← HQ.out]; decide), if_neg (by rw [← HQ.out]; decide), if_pos (by rw [← HQ.out]; omega)]
      have hsa : ∀ L : List Wv, u.stepA d L = if (u.stepL d).1 = 0 then [] else L := fun L => by unfold Lo.stepA; rw [if_neg (by rw [← HQ.out]; omega), if_pos (by rw [← HQ.out]; omega)]
      obtain ⟨r, hr⟩ : ∃ r, r = u.sync := ⟨_, rfl⟩
      have HSTEP0 := hid (show playV v [v.s.v] (D.take (k + 1)) = (r.2, (if r.1 = 0 then [] else L) ++ [r.2.s.v]) by rw [HST.out]; unfold stepP; dsimp only; rw [hsa, hse, hr])
      have HCT := hid (fun W (hW : Ext wr W) => LSync_any (HL1.out.below hW) HFT.out.1.ok (by have := HFT.out.1.acts; have := HFT.out.2.1; omega))
      rw [← hr] at HCT
      clear hse hsa hr q3 q4 q5
      go_wp2_with fail
      generalize wr.alloc (.cells #[.int .i64 d.o, .slice ea en ec, .int .i64 d.ht, .int .i64 d.hv, .int .i64 d.n, .int .i64 d.t, .int .i64 d.kp, .int .i64 d.tr] 51) = w2 at *
      obtain ⟨p7, hp7⟩ : ∃ p, p = wr.heap.size := ⟨_, rfl⟩
      rw [← hp7] at HN2 ⊢
      have HP7 := hid (show wr.heap.size ≤ p7 from Nat.le_of_eq hp7.symm)
      clear hp7 e0 e1 e2 e3 e4 e5 e6 e7
      refine Calls.mono (HCT.out w2 HX2.out) ?_
      rintro e w3 hp
      have HPX := hid (PlayInv.log (HV1.out.ext HX2.out) HO1.out HS1.out (HF1.out.then_ext HX2.out) hp)
      obtain ⟨rfl, -, -⟩ := hp
      clear HCT
      obtain ⟨r1, r2⟩ := r
      dsimp only at HPX HSTEP0
      dsimp only
      by_cases hr1 : r1 = 0
      · subst hr1
        have HSTEP := hid (show playV v [v.s.v] (D.take (k + 1)) = (r2, [] ++ [r2.s.v]) by rw [HSTEP0.out, if_pos rfl])
        have HPX := hid HPX.out.nil
        obtain ⟨A9, t1, t2, t3, t4, t5⟩ := HPX.out
        have HVW := hid (view_any t1)
        have HA9 := hid t1.lt
        have HT1 := hid t1
        have HT2 := hid t2
        have HT3 := hid t3
        have HT4 := hid t4
        have HT5 := hid t5
        clear t1 t2 t3 t4 t5 HPX
        go_wp2_with fail
        refine Calls.mono HVW.out ?_
        rintro e wv ⟨av, nv, cv, rfl, hev, hxv⟩
        dsimp only [vwV]
        have hxa := ext_alloc wv (.cells #[.int .i64 r2.s.v.ht, .int .i64 r2.s.v.hv, .int .i64 r2.s.v.i, .int .i64 r2.s.v.t, .slice av nv cv] 42)
        have HXA := hid (hxv.trans' hxa)
        have HV9 := hid (HT2.out.ext HXA.out)
        have HCW := hid (wnews_row wv (vcell r2.s.v (av, nv, cv)) 1 5 42 rfl)
        have HY9 := hid ((hev.below hxa).more (G := Off (fun q => ¬ A9 q) (.slice none 0 0)) fun q hq => ⟨fun hA => by have := HA9.out q hA; omega, fun e => by have := (HT2.out.at_ q e).2; omega⟩)
        have HB9 := hid (show w.heap.size ≤ (wv.alloc (.cells #[.int .i64 r2.s.v.ht, .int .i64 r2.s.v.hv, .int .i64 r2.s.v.i, .int .i64 r2.s.v.t, .slice av nv cv] 42)).heap.size from Nat.le_trans HT5.out.size HXA.out.size)
        have HLB := hid (show ([] : List Wv).length ≤ 1000000000000 by decide)
        clear hev hxv hxa HVW
        go_wp2_with (at_builtin; refine wpList_appV rfl (.tmp 82) (.tmp 85) rfl (fun q => ¬ A9 q) w.heap.size (.slice none 0 0) ([] : List Wv) rfl HV9.out wv.heap.size rfl r2.s.v (av, nv, cv) HCW.out HY9.out HLB.out HB9.out ?_; intro v6 w6 hv6 hf6 ho6; obtain ⟨a6, n6, c6, hv6e⟩ : ∃ a n c, v6 = .slice a n c := (by obtain ⟨a, c, h⟩ := hv6.slice_; exact ⟨a, _, c, h⟩); subst hv6e; have HP6 := hid (PlayInv.put (HT1.out.below HXA.out) HV9.out HT3.out HT4.out (HT5.out.then_ext HXA.out) hv6 hf6 ho6); clear hv6 hf6 ho6)
        go_roundw
        case rel => exact ⟨k + 1, a6, n6, c6, by omega, by go_num, rfl, by rw [HSTEP.out]; exact HP6.out⟩
        case measure => simp [intOf]; omega
      have hb : (r1 == 0) = false := by simpa using hr1
      have HSTEP := hid (show playV v [v.s.v] (D.take (k + 1)) = (r2, L ++ [r2.s.v]) by rw [HSTEP0.out, if_neg hr1])
      clear hr1
      obtain ⟨A9, t1, t2, t3, t4, t5⟩ := HPX.out
      have HVW := hid (view_any t1)
      have HA9 := hid t1.lt
      have HT1 := hid t1
      have HT2 := hid t2
      have HT3 := hid t3
      have HT4 := hid t4
      have HT5 := hid t5
      clear t1 t2 t3 t4 t5 HPX
      go_wp2_with fail
      refine Calls.mono HVW.out ?_
      rintro e wv ⟨av, nv, cv, rfl, hev, hxv⟩
      dsimp only [vwV]
      have hxa := ext_alloc wv (.cells #[.int .i64 r2.s.v.ht, .int .i64 r2.s.v.hv, .int .i64 r2.s.v.i, .int .i64 r2.s.v.t, .slice av nv cv] 42)
      have HXA := hid (hxv.trans' hxa)
      have HV9 := hid (HT2.out.ext HXA.out)
      have HCW := hid (wnews_row wv (vcell r2.s.v (av, nv, cv)) 1 5 42 rfl)
      have HY9 := hid ((hev.below hxa).more (G := Off (fun q => ¬ A9 q) (.slice a5 n5 c5)) fun q hq => ⟨fun hA => by have := HA9.out q hA; omega, fun e => by have := (HT2.out.at_ q e).2; omega⟩)
      have HB9 := hid (show w.heap.size ≤ (wv.alloc (.cells #[.int .i64 r2.s.v.ht, .int .i64 r2.s.v.hv, .int .i64 r2.s.v.i, .int .i64 r2.s.v.t, .slice av nv cv] 42)).heap.size from Nat.le_trans HT5.out.size HXA.out.size)
      have HLB := hid (show L.length ≤ 1000000000000 by have := HLL.out; omega)
      clear hev hxv hxa HVW
      go_wp2_with (at_builtin; refine wpList_appV rfl (.tmp 82) (.tmp 85) rfl (fun q => ¬ A9 q) w.heap.size (.slice a5 n5 c5) L rfl HV9.out wv.heap.size rfl r2.s.v (av, nv, cv) HCW.out HY9.out HLB.out HB9.out ?_; intro v6 w6 hv6 hf6 ho6; obtain ⟨a6, n6, c6, hv6e⟩ : ∃ a n c, v6 = .slice a n c := (by obtain ⟨a, c, h⟩ := hv6.slice_; exact ⟨a, _, c, h⟩); subst hv6e; have HP6 := hid (PlayInv.put (HT1.out.below HXA.out) HV9.out HT3.out HT4.out (HT5.out.then_ext HXA.out) hv6 hf6 ho6); clear hv6 hf6 ho6)
      go_roundw
      case rel => exact ⟨k + 1, a6, n6, c6, by omega, by go_num, rfl, by rw [HSTEP.out]; exact HP6.out⟩
      case measure => simp [intOf]; omega
    have q6b : (q == 6) = false := by simpa using q6
    by_cases q7 : q = 7
    · subst q7
      have hse : u.stepL d = u.sync := by unfold Lo.stepL; rw [if_neg (by rw [← HQ.out]; decide), if_neg (by rw [← HQ.out]; decide), if_neg (by rw [← HQ.out]; decide), if_pos (by rw [← HQ.out]; omega)]
      have hsa : ∀ L : List Wv, u.stepA d L = if (u.stepL d).1 = 0 then [] else L := fun L => by unfold Lo.stepA; rw [if_neg (by rw [← HQ.out]; omega), if_pos (by rw [← HQ.out]; omega)]
      obtain ⟨r, hr⟩ : ∃ r, r = u.sync := ⟨_, rfl⟩
      have HSTEP0 := hid (show playV v [v.s.v] (D.take (k + 1)) = (r.2, (if r.1 = 0 then [] else L) ++ [r.2.s.v]) by rw [HST.out]; unfold stepP; dsimp only; rw [hsa, hse, hr])
      have HCT := hid (fun W (hW : Ext wr W) => LSync_any (HL1.out.below hW) HFT.out.1.ok (by have := HFT.out.1.acts; have := HFT.out.2.1; omega))
      rw [← hr] at HCT
      clear hse hsa hr q3 q4 q5 q6
      go_wp2_with fail
      generalize wr.alloc (.cells #[.int .i64 d.o, .slice ea en ec, .int .i64 d.ht, .int .i64 d.hv, .int .i64 d.n, .int .i64 d.t, .int .i64 d.kp, .int .i64 d.tr] 51) = w2 at *
      obtain ⟨p7, hp7⟩ : ∃ p, p = wr.heap.size := ⟨_, rfl⟩
      rw [← hp7] at HN2 ⊢
      have HP7 := hid (show wr.heap.size ≤ p7 from Nat.le_of_eq hp7.symm)
      clear hp7 e0 e1 e2 e3 e4 e5 e6 e7
      refine Calls.mono (HCT.out w2 HX2.out) ?_
      rintro e w3 hp
      have HPX := hid (PlayInv.log (HV1.out.ext HX2.out) HO1.out HS1.out (HF1.out.then_ext HX2.out) hp)
      obtain ⟨rfl, -, -⟩ := hp
      clear HCT
      obtain ⟨r1, r2⟩ := r
      dsimp only at HPX HSTEP0
      dsimp only
      by_cases hr1 : r1 = 0
      · subst hr1
        have HSTEP := hid (show playV v [v.s.v] (D.take (k + 1)) = (r2, [] ++ [r2.s.v]) by rw [HSTEP0.out, if_pos rfl])
        have HPX := hid HPX.out.nil
        obtain ⟨A9, t1, t2, t3, t4, t5⟩ := HPX.out
        have HVW := hid (view_any t1)
        have HA9 := hid t1.lt
        have HT1 := hid t1
        have HT2 := hid t2
        have HT3 := hid t3
        have HT4 := hid t4
        have HT5 := hid t5
        clear t1 t2 t3 t4 t5 HPX
        go_wp2_with fail
        refine Calls.mono HVW.out ?_
        rintro e wv ⟨av, nv, cv, rfl, hev, hxv⟩
        dsimp only [vwV]
        have hxa := ext_alloc wv (.cells #[.int .i64 r2.s.v.ht, .int .i64 r2.s.v.hv, .int .i64 r2.s.v.i, .int .i64 r2.s.v.t, .slice av nv cv] 42)
        have HXA := hid (hxv.trans' hxa)
        have HV9 := hid (HT2.out.ext HXA.out)
        have HCW := hid (wnews_row wv (vcell r2.s.v (av, nv, cv)) 1 5 42 rfl)
        have HY9 := hid ((hev.below hxa).more (G := Off (fun q => ¬ A9 q) (.slice none 0 0)) fun q hq => ⟨fun hA => by have := HA9.out q hA; omega, fun e => by have := (HT2.out.at_ q e).2; omega⟩)
        have HB9 := hid (show w.heap.size ≤ (wv.alloc (.cells #[.int .i64 r2.s.v.ht, .int .i64 r2.s.v.hv, .int .i64 r2.s.v.i, .int .i64 r2.s.v.t, .slice av nv cv] 42)).heap.size from Nat.le_trans HT5.out.size HXA.out.size)
        have HLB := hid (show ([] : List Wv).length ≤ 1000000000000 by decide)
        clear hev hxv hxa HVW
        go_wp2_with (at_builtin; refine wpList_appV rfl (.tmp 82) (.tmp 85) rfl (fun q => ¬ A9 q) w.heap.size (.slice none 0 0) ([] : List Wv) rfl HV9.out wv.heap.size rfl r2.s.v (av, nv, cv) HCW.out HY9.out HLB.out HB9.out ?_; intro v6 w6 hv6 hf6 ho6; obtain ⟨a6, n6, c6, hv6e⟩ : ∃ a n c, v6 = .slice a n c := (by obtain ⟨a, c, h⟩ := hv6.slice_; exact ⟨a, _, c, h⟩); subst hv6e; have HP6 := hid (PlayInv.put (HT1.out.below HXA.out) HV9.out HT3.out HT4.out (HT5.out.then_ext HXA.out) hv6 hf6 ho6); clear hv6 hf6 ho6)
        go_roundw
        case rel => exact ⟨k + 1, a6, n6, c6, by omega, by go_num, rfl, by rw [HSTEP.out]; exact HP6.out⟩
        case measure => simp [intOf]; omega
      have hb : (r1 == 0) = false := by simpa using hr1
      have HSTEP := hid (show playV v [v.s.v] (D.take (k + 1)) = (r2, L ++ [r2.s.v]) by rw [HSTEP0.out, if_neg hr1])
      clear hr1
      obtain ⟨A9, t1, t2, t3, t4, t5⟩ := HPX.out
      have HVW := hid (view_any t1)
      have HA9 := hid t1.lt
      have HT1 := hid t1
      have HT2 := hid t2
      have HT3 := hid t3
      have HT4 := hid t4
      have HT5 := hid t5
      clear t1 t2 t3 t4 t5 HPX
      go_wp2_with fail
      refine Calls.mono HVW.out ?_
      rintro e wv ⟨av, nv, cv, rfl, hev, hxv⟩
      dsimp only [vwV]
      have hxa := ext_alloc wv (.cells #[.int .i64 r2.s.v.ht, .int .i64 r2.s.v.hv, .int .i64 r2.s.v.i, .int .i64 r2.s.v.t, .slice av nv cv] 42)
      have HXA := hid (hxv.trans' hxa)
      have HV9 := hid (HT2.out.ext HXA.out)
      have HCW := hid (wnews_row wv (vcell r2.s.v (av, nv, cv)) 1 5 42 rfl)
      have HY9 := hid ((hev.below hxa).more (G := Off (fun q => ¬ A9 q) (.slice a5 n5 c5)) fun q hq => ⟨fun hA => by have := HA9.out q hA; omega, fun e => by have := (HT2.out.at_ q e).2; omega⟩)
      have HB9 := hid (show w.heap.size ≤ (wv.alloc (.cells #[.int .i64 r2.s.v.ht, .int .i64 r2.s.v.hv, .int .i64 r2.s.v.i, .int .i64 r2.s.v.t, .slice av nv cv] 42)).heap.size from Nat.le_trans HT5.out.size HXA.out.size)
      have HLB := hid (show L.length ≤ 1000000000000 by have := HLL.out; omega)
      clear hev hxv hxa HVW
      go_wp2_with (at_builtin; refine wpList_appV rfl (.tmp 82) (.tmp 85) rfl (fun q => ¬ A9 q) w.heap.size (.slice a5 n5 c5) L rfl HV9.out wv.heap.size rfl r2.s.v (av, nv, cv) HCW.out HY9.out HLB.out HB9.out ?_; intro v6 w6 hv6 hf6 ho6; obtain ⟨a6, n6, c6, hv6e⟩ : ∃ a n c, v6 = .slice a n c := (by obtain ⟨a, c, h⟩ := hv6.slice_; exact ⟨a, _, c, h⟩); subst hv6e; have HP6 := hid (PlayInv.put (HT1.out.below HXA.out) HV9.out HT3.out HT4.out (HT5.out.then_ext HXA.out) hv6 hf6 ho6); clear hv6 hf6 ho6)
      go_roundw
      case rel => exact ⟨k + 1, a6, n6, c6, by omega, by go_num, rfl, by rw [HSTEP.out]; exact HP6.out⟩
      case measure => simp [intOf]; omega
    have q7b : (q == 7) = false := by simpa using q7
    by_cases q8 : q = 8
    · subst q8
      have hse : u.stepL d = u.sync := by unfold Lo.stepL; rw [if_neg (by rw [← HQ.out]; decide), if_neg (by rw [← HQ.out]; decide), if_neg (by rw [← HQ.out]; decide), if_pos (by rw [← HQ.out]; omega)]
      have hsa : ∀ L : List Wv, u.stepA d L = if (u.stepL d).1 = 0 then [] else L := fun L => by unfold Lo.stepA; rw [if_neg (by rw [← HQ.out]; omega), if_pos (by rw [← HQ.out]; omega)]
      obtain ⟨r, hr⟩ : ∃ r, r = u.sync := ⟨_, rfl⟩
      have HSTEP0 := hid (show playV v [v.s.v] (D.take (k + 1)) = (r.2, (if r.1 = 0 then [] else L) ++ [r.2.s.v]) by rw [HST.out]; unfold stepP; dsimp only; rw [hsa, hse, hr])
      have HCT := hid (fun W (hW : Ext wr W) => LSync_any (HL1.out.below hW) HFT.out.1.ok (by have := HFT.out.1.acts; have := HFT.out.2.1; omega))
      rw [← hr] at HCT
      clear hse hsa hr q3 q4 q5 q6 q7
      go_wp2_with fail
      generalize wr.alloc (.cells #[.int .i64 d.o, .slice ea en ec, .int .i64 d.ht, .int .i64 d.hv, .int .i64 d.n, .int .i64 d.t, .int .i64 d.kp, .int .i64 d.tr] 51) = w2 at *
      obtain ⟨p7, hp7⟩ : ∃ p, p = wr.heap.size := ⟨_, rfl⟩
      rw [← hp7] at HN2 ⊢
      have HP7 := hid (show wr.heap.size ≤ p7 from Nat.le_of_eq hp7.symm)
      clear hp7 e0 e1 e2 e3 e4 e5 e6 e7
      refine Calls.mono (HCT.out w2 HX2.out) ?_
      rintro e w3 hp
      have HPX := hid (PlayInv.log (HV1.out.ext HX2.out) HO1.out HS1.out (HF1.out.then_ext HX2.out) hp)
      obtain ⟨rfl, -, -⟩ := hp
      clear HCT
      obtain ⟨r1, r2⟩ := r
      dsimp only at HPX HSTEP0
      dsimp only
      by_cases hr1 : r1 = 0
      · subst hr1
        have HSTEP := hid (show playV v [v.s.v] (D.take (k + 1)) = (r2, [] ++ [r2.s.v]) by rw [HSTEP0.out, if_pos rfl])
        have HPX := hid HPX.out.nil
        obtain ⟨A9, t1, t2, t3, t4, t5⟩ := HPX.out
        have HVW := hid (view_any t1)
        have HA9 := hid t1.lt
        have HT1 := hid t1
        have HT2 := hid t2
        have HT3 := hid t3
        have HT4 := hid t4
        have HT5 := hid t5
        clear t1 t2 t3 t4 t5 HPX
        go_wp2_with fail
        refine Calls.mono HVW.out ?_
        rintro e wv ⟨av, nv, cv, rfl, hev, hxv⟩
        dsimp only [vwV]
        have hxa := ext_alloc wv (.cells #[.int .i64 r2.s.v.ht, .int .i64 r2.s.v.hv, .int .i64 r2.s.v.i, .int .i64 r2.s.v.t, .slice av nv cv] 42)
        have HXA := hid (hxv.trans' hxa)
        have HV9 := hid (HT2.out.ext HXA.out)
        have HCW := hid (wnews_row wv (vcell r2.s.v (av, nv, cv)) 1 5 42 rfl)
        have HY9 := hid ((hev.below hxa).more (G := Off (fun q => ¬ A9 q) (.slice none 0 0)) fun q hq => ⟨fun hA => by have := HA9.out q hA; omega, fun e => by have := (HT2.out.at_ q e).2; omega⟩)
        have HB9 := hid (show w.heap.size ≤ (wv.alloc (.cells #[.int .i64 r2.s.v.ht, .int .i64 r2.s.v.hv, .int .i64 r2.s.v.i, .int .i64 r2.s.v.t, .slice av nv cv] 42)).heap.size from Nat.le_trans HT5.out.size HXA.out.size)
        have HLB := hid (show ([] : List Wv).length ≤ 1000000000000 by decide)
        clear hev hxv hxa HVW
        go_wp2_with (at_builtin; refine wpList_appV rfl (.tmp 82) (.tmp 85) rfl (fun q => ¬ A9 q) w.heap.size (.slice none 0 0) ([] : List Wv) rfl HV9.out wv.heap.size rfl r2.s.v (av, nv, cv) HCW.out HY9.out HLB.out HB9.out ?_; intro v6 w6 hv6 hf6 ho6; obtain ⟨a6, n6, c6, hv6e⟩ : ∃ a n c, v6 = .slice a n c := (by obtain ⟨a, c, h⟩ := hv6.slice_; exact ⟨a, _, c, h⟩); subst hv6e; have HP6 := hid (PlayInv.put (HT1.out.below HXA.out) HV9.out HT3.out HT4.out (HT5.out.then_ext HXA.out) hv6 hf6 ho6); clear hv6 hf6 ho6)
        go_roundw
        case rel => exact ⟨k + 1, a6, n6, c6, by omega, by go_num, rfl, by rw [HSTEP.out]; exact HP6.out⟩
        case measure => simp [intOf]; omega
      have hb : (r1 == 0) = false := by simpa using hr1
      have HSTEP := hid (show playV v [v.s.v] (D.take (k + 1)) = (r2, L ++ [r2.s.v]) by rw [HSTEP0.out, if_neg hr1])
      clear hr1
      obtain ⟨A9, t1, t2, t3, t4, t5⟩ := HPX.out
      have HVW := hid (view_any t1)
      have HA9 := hid t1.lt
      have HT1 := hid t1
      have HT2 := hid t2
      have HT3 := hid t3
      have HT4 := hid t4
      have HT5 := hid t5
      clear t1 t2 t3 t4 t5 HPX
      go_wp2_with fail
      refine Calls.mono HVW.out ?_
      rintro e wv ⟨av, nv, cv, rfl, hev, hxv⟩
      dsimp only [vwV]
      have hxa := ext_alloc wv (.cells #[.int .i64 r2.s.v.ht, .int .i64 r2.s.v.hv, .int .i64 r2.s.v.i, .int .i64 r2.s.v.t, .slice av nv cv] 42)
      have HXA := hid (hxv.trans' hxa)
      have HV9 := hid (HT2.out.ext HXA.out)
      have HCW := hid (wnews_row wv (vcell r2.s.v (av, nv, cv)) 1 5 42 rfl)
      have HY9 := hid ((hev.below hxa).more (G := Off (fun q => ¬ A9 q) (.slice a5 n5 c5)) fun q hq => ⟨fun hA => by have := HA9.out q hA; omega, fun e => by have := (HT2.out.at_ q e).2; omega⟩)
      have HB9 := hid (show w.heap.size ≤ (wv.alloc (.cells #[.int .i64 r2.s.v.ht, .int .i64 r2.s.v.hv, .int .i64 r2.s.v.i, .int .i64 r2.s.v.t, .slice av nv cv] 42)).heap.size from Nat.le_trans HT5.out.size HXA.out.size)
      have HLB := hid (show L.length ≤ 1000000000000 by have := HLL.out; omega)
      clear hev hxv hxa HVW
      go_wp2_with (at_builtin; refine wpList_appV rfl (.tmp 82) (.tmp 85) rfl (fun q => ¬ A9 q) w.heap.size (.slice a5 n5 c5) L rfl HV9.out wv.heap.size rfl r2.s.v (av, nv, cv) HCW.out HY9.out HLB.out HB9.out ?_; intro v6 w6 hv6 hf6 ho6; obtain ⟨a6, n6, c6, hv6e⟩ : ∃ a n c, v6 = .slice a n c := (by obtain ⟨a, c, h⟩ := hv6.slice_; exact ⟨a, _, c, h⟩); subst hv6e; have HP6 := hid (PlayInv.put (HT1.out.below HXA.out) HV9.out HT3.out HT4.out (HT5.out.then_ext HXA.out) hv6 hf6 ho6); clear hv6 hf6 ho6)
      go_roundw
      case rel => exact ⟨k + 1, a6, n6, c6, by omega, by go_num, rfl, by rw [HSTEP.out]; exact HP6.out⟩
      case measure => simp [intOf]; omega
    have q8b : (q == 8) = false := by simpa using q8
    have hse : u.stepL d = u.app d.l := by unfold Lo.stepL; rw [if_neg (by rw [← HQ.out]; exact q3), if_neg (by rw [← HQ.out]; exact q4), if_neg (by rw [← HQ.out]; exact q5), if_neg (by rw [← HQ.out]; rintro (h | h | h); exact q6 h; exact q7 h; exact q8 h)]
    have hsa : ∀ L : List Wv, u.stepA d L = if (u.stepL d).1 = 0 then L ++ midsTo u.s.v d.l d.l.length else L := fun L => by
      unfold Lo.stepA
      rw [if_neg (by rw [← HQ.out]; rintro (h | h); exact q3 h; exact q4 h), if_neg (by rw [← HQ.out]; rintro (h | h | h | h); exact q5 h; exact q6 h; exact q7 h; exact q8 h)]
    obtain ⟨r, hr⟩ : ∃ r, r = u.app d.l := ⟨_, rfl⟩
    have HSTEP0 := hid (show playV v [v.s.v] (D.take (k + 1)) = (r.2, (if r.1 = 0 then L ++ midsTo u.s.v d.l d.l.length else L) ++ [r.2.s.v]) by rw [HST.out]; unfold stepP; dsimp only; rw [hsa, hse, hr])
    have HVU := hid (fun W (hW : Ext wr W) => view_any (HL1.out.below hW))
    have HAP := hid (fun W (hW : Ext wr W) {F : Nat → Prop} {a : Option Addr} {n c : Nat} (hl : EsF F W a n c d.l) => LApp_any (HL1.out.below hW) HFT.out.1 (by have := HFT.out.2.1; omega) (by decide) hl (by have := HFT.out.2.2; omega) (HTW.out W (HF1.out.then_ext hW)))
    rw [← hr] at HAP
    clear hse hsa hr q3 q4 q5 q6 q7 q8
    go_wp2_with fail
    generalize wr.alloc (.cells #[.int .i64 d.o, .slice ea en ec, .int .i64 d.ht, .int .i64 d.hv, .int .i64 d.n, .int .i64 d.t, .int .i64 d.kp, .int .i64 d.tr] 51) = w2 at *
    obtain ⟨p7, hp7⟩ : ∃ p, p = wr.heap.size := ⟨_, rfl⟩
    rw [← hp7] at HN2 ⊢
    have HP7 := hid (show wr.heap.size ≤ p7 from Nat.le_of_eq hp7.symm)
    clear hp7 e0 e1 e2 e3 e4 e5 e6 e7
    refine Calls.mono (HVU.out w2 HX2.out) ?_
    rintro e w3 ⟨a3, n3, c3, rfl, he3, hx3⟩
    dsimp only [vwV]
    have hx4 := ext_alloc w3 (.cells #[.int .i64 u.s.v.ht, .int .i64 u.s.v.hv, .int .i64 u.s.v.i, .int .i64 u.s.v.t, .slice a3 n3 c3] 42)
    have hn4 := heap_alloc_new w3 (.cells #[.int .i64 u.s.v.ht, .int .i64 u.s.v.hv, .int .i64 u.s.v.i, .int .i64 u.s.v.t, .slice a3 n3 c3] 42)
    have HX3 := hid (HX2.out.trans' hx3)
    have HX4 := hid ((HX2.out.trans' hx3).trans' hx4)
    have HN4 := hid hn4
    have HE3 := hid (he3.below hx4)
    have h74 := (hx4.block p7 (Nat.lt_of_lt_of_le (Array.getElem?_eq_some_iff.1 HN2.out).1 hx3.size)).trans ((hx3.block p7 (Array.getElem?_eq_some_iff.1 HN2.out).1).trans HN2.out)
    have H74 := hid h74
    have HZ23 := hid (And.intro HX2.out.size hx3.size)
    obtain ⟨g0, g1, g2, g3, g4, g5, g6, g7, gl⟩ := gcells8 h74
    clear he3 hx3 hx4 hn4 h74 HVU
    go_wp2_with fail
    clear g0 g1 g2 g3 g4 g5 g6 g7 gl
    generalize w3.alloc (.cells #[.int .i64 u.s.v.ht, .int .i64 u.s.v.hv, .int .i64 u.s.v.i, .int .i64 u.s.v.t, .slice a3 n3 c3] 42) = w4 at *
    obtain ⟨p8, hp8⟩ : ∃ p, p = w3.heap.size := ⟨_, rfl⟩
    rw [← hp8] at HN4 ⊢
    have HP8 := hid (show w3.heap.size = p8 ∧ p7 < p8 ∧ p8 < w4.heap.size from ⟨hp8.symm, by have h1 := (Array.getElem?_eq_some_iff.1 HN2.out).1; have := HZ23.out.2; omega, (Array.getElem?_eq_some_iff.1 HN4.out).1⟩)
    clear hp8
    refine Calls.mono (lown_any (HES.out.below HX4.out)) ?_
    rintro e w5 ⟨ov, rfl, ho, hx5⟩
    obtain ⟨oa, om, oc, hov, hoe⟩ : ∃ a n c, ov = .slice a n c ∧ EsF (fun b => w4.heap.size ≤ b) w5 a n c d.l := by obtain ⟨a, c, h, h2⟩ := ho.es; exact ⟨_, _, _, h, h2⟩
    subst hov
    have HX5 := hid (HX4.out.trans' hx5)
    have HX45 := hid hx5
    have HAW := hid (HAP.out w5 HX5.out hoe)
    clear ho hx5 hoe HAP
    go_wp2_with fail
    refine Calls.mono HAW.out ?_
    rintro e w6 hp
    have h5p := play_log (HV1.out.ext HX5.out) HO1.out HS1.out (HF1.out.then_ext HX5.out) hp
    obtain ⟨r1, r2⟩ := r
    dsimp only at h5p HSTEP0
    have HPL := hid h5p
    obtain ⟨rfl, -, hf6⟩ := hp
    have HF6 := hid hf6
    clear h5p hf6 HAW
    dsimp only
    by_cases hr1 : r1 = 0
    · subst hr1
      have HSTEP := hid (show playV v [v.s.v] (D.take (k + 1)) = (r2, (L ++ midsTo u.s.v d.l d.l.length) ++ [r2.s.v]) by rw [HSTEP0.out, if_pos rfl])
      clear HSTEP0
      obtain ⟨A6, hA6⟩ : ∃ A6, A6 = Go.Proofs.YtikjckdoldiddaaGreatDoor.grow A1 w5 w6 := ⟨_, rfl⟩
      have hpl := HPL.out
      rw [← hA6] at hpl
      obtain ⟨l6, v6, o6, s6, f6⟩ := hpl
      have hz5 : wr.heap.size ≤ w5.heap.size := HX5.out.size
      have hz45 := HX45.out.size
      have hA6n : ∀ q, wr.heap.size ≤ q → q < w5.heap.size → ¬ A6 q := fun q h1 h2 h => by
        rw [hA6] at h
        rcases h with h | h
        · have := HLT1.out q h; omega
        omega
      have hp8n : ¬ A6 p8 := hA6n p8 (by have := HP8.out; have := HZ23.out; omega) (by have := HP8.out; omega)
      have hA1n : ∀ q, wr.heap.size ≤ q → ¬ A1 q := fun q h1 h => by have := HLT1.out q h; omega
      have hb8 := (HF6.out.block p8 (by have := HP8.out; omega) (hA1n p8 (by have := HP8.out; have := HZ23.out; omega))).trans ((HX45.out.block p8 HP8.out.2.2).trans HN4.out)
      have hb7 := (HF6.out.block p7 (by have := HP8.out; omega) (hA1n p7 HP7.out)).trans ((HX45.out.block p7 (by have := HP8.out; omega)).trans H74.out)
      have hown1 : ∀ q, (Value.slice a5 n5 c5).ownBlock = some q → q < wr.heap.size := fun q hq => (HV1.out.at_ q hq).2
      have hvs : VsR (fun q => ¬ A6 q ∧ q ≠ p8) w.heap.size w6 (.slice a5 n5 c5) (L ++ midsTo u.s.v d.l 0) := by
        rw [show L ++ midsTo u.s.v d.l 0 = L by unfold midsTo; simp]
        refine HV1.out.keep (fun q hq => (HF6.out.block q (by have := hown1 q hq; omega) (HO1.out q hq)).trans (HX5.out.block q (hown1 q hq))) fun q hq hl => ⟨⟨fun h => ?_, by have := HP8.out; have := HZ23.out; omega⟩, (HF6.out.block q (by omega) hq).trans (HX5.out.block q hl)⟩
        rw [hA6] at h
        rcases h with h | h
        · exact hq h
        omega
      have hwas : EsF (Off (fun q => ¬ A6 q ∧ q ≠ p8) (.slice a5 n5 c5)) w6 a3 n3 c3 (u.s.v.l ++ d.l.take 0) := by
        rw [List.take_zero, List.append_nil]
        refine HE3.out.keep fun q hq hl => ⟨⟨⟨hA6n q (by have := HZ23.out; omega) (by omega), by have := HP8.out; omega⟩, fun e => by have := hown1 q e; have := HZ23.out; omega⟩, (HF6.out.block q (by omega) (hA1n q (by have := HZ23.out; omega))).trans (HX45.out.block q hl)⟩
      have HLOOP := hid (And.intro l6 (And.intro hvs (And.intro o6 (And.intro f6 (And.intro hb8 (And.intro hb7 hwas))))))
      have HOWN0 := hid (show ∀ q, (Value.slice a5 n5 c5).ownBlock = some q → q ≠ p7 ∧ q ≠ p8 from fun q hq => by have := hown1 q hq; have := HP7.out; have := HP8.out; have := HZ23.out; exact ⟨by omega, by omega⟩)
      have HS6 := hid s6
      have HP8N := hid hp8n
      have HENN := hid HES.out.1
      have henb : en ≤ 131072 := by have h1 := HES.out.1; have := HLL.out.2; omega
      obtain ⟨g0, g1, g2, g3, g4, g5, g6, g7, gl⟩ := gcells8 hb7
      have hsz : p8 < w6.heap.size := (Array.getElem?_eq_some_iff.1 hb8).1
      clear hA6 l6 v6 o6 s6 f6 hz5 hz45 hA6n hp8n hA1n hb8 hb7 hown1 hvs hwas HPL
      go_wp2
      clear g0 g1 g2 g3 g4 g5 g6 g7 gl hsz
      generalize wr = wo at *
      go_loopw [5, 9, 35] (fun x5 _ z wi => ∃ (i : Nat) (a8 : Option Addr) (n8 c8 : Nat) (aw : Option Addr) (nw cw : Nat), i ≤ en ∧ z = .int .i64 (i : Int) ∧ x5 = .slice a8 n8 c8 ∧
          Hid (LoAt A6 wi g dg r2 ∧ VsR (fun q => ¬ A6 q ∧ q ≠ p8) w.heap.size wi (.slice a8 n8 c8) (L ++ midsTo u.s.v d.l i) ∧ (∀ q, (Value.slice a8 n8 c8).ownBlock = some q → ¬ A6 q) ∧ Frm A w wi ∧
            wi.heap[p8]? = some (.cells #[.int .i64 u.s.v.ht, .int .i64 u.s.v.hv, .int .i64 u.s.v.i, .int .i64 u.s.v.t, .slice aw nw cw] 42 (0, 0)) ∧
            wi.heap[p7]? = some (.cells #[.int .i64 d.o, .slice ea en ec, .int .i64 d.ht, .int .i64 d.hv, .int .i64 d.n, .int .i64 d.t, .int .i64 d.kp, .int .i64 d.tr] 51 (0, 0)) ∧
            EsF (Off (fun q => ¬ A6 q ∧ q ≠ p8) (.slice a8 n8 c8)) wi aw nw cw (u.s.v.l ++ d.l.take i)) ∧
          Hid (∀ q, (Value.slice a8 n8 c8).ownBlock = some q → q ≠ p7 ∧ q ≠ p8)) (fun _ _ z _ => en - (intOf z).toNat)
      case atStart => exact ⟨0, a5, n5, c5, a3, n3, c3, Nat.zero_le _, rfl, rfl, HLOOP.out, HOWN0.out⟩
      obtain ⟨i, a8, n8, c8, aw, nw, cw, hi, rfl, rfl, HLP, HOW⟩ := hrel
      by_cases hlt2 : i < en
      · generalize wr = wi at *
        obtain ⟨l6, v6, o6, f6, b8, b7, hwas⟩ := HLP.out
        have HL6 := hid l6
        have HV6 := hid v6
        have HO6 := hid o6
        have HF6i := hid f6
        have HLT6 := hid l6.lt
        have hesi := HES.out.keep (w' := wi) (G := fun q => F0 q ∧ q < w.heap.size) fun q hq hl => ⟨hq, (f6.block q hq.2 (HF0.out q hq.1)).trans (HF1.out.block q hq.2 (HF0.out q hq.1)).symm⟩
        obtain ⟨b2, o2, rfl, hb2F, hb2l, hil, xd1, xd2, ec0, ec1, xa, xn, xc, ec2, hxd⟩ := hesi.at_ (k := i) hlt2
        obtain ⟨x, hx⟩ : ∃ x, x = d.l[i] := ⟨_, rfl⟩
        have htk := List.take_succ_eq_append_getElem hil
        rw [← hx] at xd1 xd2 ec0 ec1 hxd htk
        obtain ⟨WL, hWL⟩ : ∃ WL, WL = u.s.v.l ++ d.l.take i := ⟨_, rfl⟩
        rw [← hWL] at hwas
        have hWL1 : WL ++ [x] = u.s.v.l ++ d.l.take (i + 1) := by rw [hWL, htk, List.append_assoc]
        have hWLn : WL.length ≤ 100000000 := by
          rw [hWL, List.length_append, List.length_take]
          have h1 := HFT.out.1.wt
          have h2 := u.s.v.wt_many
          have := HLL.out.2
          omega
        have HWLN := hid hWLn
        have HWL1 := hid hWL1
        have HX64 := hid (And.intro xd1 xd2)
        have HXD := hid hxd
        obtain ⟨⟨r0, r1', r2', r3, r4⟩, -, hl8⟩ := cells5 b8
        obtain ⟨-, g1, -, -, -, -, -, -, hl7⟩ := gcells8 b7
        have HB8 := hid b8
        have HB7 := hid b7
        have HLB := hid (show p8 < wi.heap.size ∧ p7 < wi.heap.size ∧ b2 < wi.heap.size from ⟨hl8, hl7, hb2l⟩)
        have HWAS := hid hwas
        have HCL := hid (fun W (hW : Ext wi W) => cloneE_row (hwas.below hW))
        have HCX := hid (And.intro r4 (And.intro g1 (And.intro ec0 (And.intro ec1 ec2))))
        have HOUT := hid (show ∀ q, wi.heap.size ≤ q → (¬ A6 q ∧ q ≠ p8) ∧ (Value.slice a8 n8 c8).ownBlock ≠ some q from fun q hq => ⟨⟨fun h => by have := HLT6.out q h; omega, by omega⟩, fun e => by have := (v6.at_ q e).2; omega⟩)
        have HF0X := hid (show ∀ q, F0 q ∧ q < w.heap.size → (¬ A6 q ∧ q ≠ p8) ∧ (Value.slice a8 n8 c8).ownBlock ≠ some q from fun q hq => ⟨⟨fun h => by
          rcases HS6.out q h with h1 | h1
          · exact HF0.out q hq.1 h1
          omega, by have h1 := HP8.out; have h2 := HZ23.out; have h3 := HP7.out; have h4 := HF1.out.size; omega⟩, fun e => by have := (v6.at_ q e).1; omega⟩)
        clear l6 v6 o6 f6 b8 b7 hwas hesi xd1 xd2 hxd htk hx hWL hWL1 hWLn r0 r1' r2' r3 hb2F HLP HES
        go_wp2
        have y0 : wi.drew.heap[p8]? = wi.heap[p8]? ∧ wi.drew.heap[p7]? = wi.heap[p7]? ∧ wi.drew.heap[b2]? = wi.heap[b2]? := ⟨rfl, rfl, rfl⟩
        refine wp_region_N (S := fun W => W.heap[p8]? = wi.heap[p8]? ∧ W.heap[p7]? = wi.heap[p7]? ∧ W.heap[b2]? = wi.heap[b2]?) 11 (by kernel_rfl) ?_
        obtain ⟨wd, hwd⟩ : ∃ wd, wd = wi.drew := ⟨_, rfl⟩
        have hxd : Ext wi wd := by rw [hwd]; exact ext_drew wi
        rw [← hwd] at y0 ⊢
        have HXD0 := hid hxd
        have HC := hid (fun (W : World) (hW : W.heap[p8]? = wi.heap[p8]? ∧ W.heap[p7]? = wi.heap[p7]? ∧ W.heap[b2]? = wi.heap[b2]?) => show W.cell? ⟨p8, 4, none⟩ = some (.slice aw nw cw) ∧ W.cell? ⟨p7, 1, none⟩ = some (.slice (some ⟨b2, o2, none⟩) en ec) ∧ W.cell? ⟨b2, o2 + i * 3, none⟩ = some (.int .i64 x.i) ∧ W.cell? ⟨b2, o2 + i * 3 + 1, none⟩ = some (.int .i64 x.t) ∧ W.cell? ⟨b2, o2 + i * 3 + 2, none⟩ = some (.slice xa xn xc) from
          ⟨(World.cell?_of_block (w := wi) (a := ⟨p8, 4, none⟩) hW.1).trans HCX.out.1, (World.cell?_of_block (w := wi) (a := ⟨p7, 1, none⟩) hW.2.1).trans HCX.out.2.1, (World.cell?_of_block (w := wi) (a := ⟨b2, o2 + i * 3, none⟩) hW.2.2).trans HCX.out.2.2.1, (World.cell?_of_block (w := wi) (a := ⟨b2, o2 + i * 3 + 1, none⟩) hW.2.2).trans HCX.out.2.2.2.1, (World.cell?_of_block (w := wi) (a := ⟨b2, o2 + i * 3 + 2, none⟩) hW.2.2).trans HCX.out.2.2.2.2⟩)
        have hi0 : (0 : Int) ≤ (i : Int) := by omega
        clear hwd hxd r4 g1 ec0 ec1 ec2 hl8 hl7 hb2l
        refine runN (N := 11) (i := 0) (v := .pointer (some ⟨p8, 4, none⟩)) rfl (by kernel_rfl) (by kernel_rfl) (by kernel_rfl) (by kernel_rfl) (fun _ _ _ h => h) (by rfl) y0 (fun W hW => ?_) ?_
        · (clear hW; go_simp)
        try simp only [Act.put, List.setIfInBounds_toArray, List.set_cons_zero, List.set_cons_succ]
        refine runN (N := 11) (i := 1) (v := .slice aw nw cw) rfl (by kernel_rfl) (by kernel_rfl) (by kernel_rfl) (by kernel_rfl) (fun _ _ _ h => h) (by rfl) y0 (fun W hW => ?_) ?_
        · (obtain ⟨z0, z1, z2, z3, z4⟩ := HC.out W hW; clear hW; go_simp)
        try simp only [Act.put, List.setIfInBounds_toArray, List.set_cons_zero, List.set_cons_succ]
        refine runN (N := 11) (i := 3) (v := .pointer (some ⟨p7, 1, none⟩)) rfl (by kernel_rfl) (by kernel_rfl) (by kernel_rfl) (by kernel_rfl) (fun _ _ _ h => h) (by rfl) y0 (fun W hW => ?_) ?_
        · (clear hW; go_simp)
        try simp only [Act.put, List.setIfInBounds_toArray, List.set_cons_zero, List.set_cons_succ]
        refine runN (N := 11) (i := 4) (v := .slice (some ⟨b2, o2, none⟩) en ec) rfl (by kernel_rfl) (by kernel_rfl) (by kernel_rfl) (by kernel_rfl) (fun _ _ _ h => h) (by rfl) y0 (fun W hW => ?_) ?_
        · (obtain ⟨z0, z1, z2, z3, z4⟩ := HC.out W hW; clear hW; go_simp)
        try simp only [Act.put, List.setIfInBounds_toArray, List.set_cons_zero, List.set_cons_succ]
        refine runN (N := 11) (i := 5) (v := .int .i64 (i : Int)) rfl (by kernel_rfl) (by kernel_rfl) (by kernel_rfl) (by kernel_rfl) (fun _ _ _ h => h) (by rfl) y0 (fun W hW => ?_) ?_
        · (clear hW; go_simp)
        try simp only [Act.put, List.setIfInBounds_toArray, List.set_cons_zero, List.set_cons_succ]
        refine runN (N := 11) (i := 6) (v := .pointer (some ⟨b2, o2 + i * 3, none⟩)) rfl (by kernel_rfl) (by kernel_rfl) (by kernel_rfl) (by kernel_rfl) (fun _ _ _ h => h) (by rfl) y0 (fun W hW => ?_) ?_
        · (clear hW; go_simp)
        try simp only [Act.put, List.setIfInBounds_toArray, List.set_cons_zero, List.set_cons_succ]
        refine runN (N := 11) (i := 7) (v := .agg #[.int .i64 x.i, .int .i64 x.t, .slice xa xn xc]) rfl (by kernel_rfl) (by kernel_rfl) (by kernel_rfl) (by kernel_rfl) (fun _ _ _ h => h) (by rfl) y0 (fun W hW => ?_) ?_
        · (obtain ⟨z0, z1, z2, z3, z4⟩ := HC.out W hW; clear hW; go_simp)
        try simp only [Act.put, List.setIfInBounds_toArray, List.set_cons_zero, List.set_cons_succ]
        refine consN2 (i := 2) (k := 8) rfl rfl (by kernel_rfl) (fun K hK => ?_) (fun K hK => ?_)
        · skip
          go_simp
          go_at_call 52
          refine Calls.mono (HCL.out wd HXD0.out) ?_
          rintro e wc ⟨vc, rfl, hoc, hxc⟩
          have y1 := And.intro ((hxc.block p8 (Nat.lt_of_lt_of_le HLB.out.1 HXD0.out.size)).trans y0.1) (And.intro ((hxc.block p7 (Nat.lt_of_lt_of_le HLB.out.2.1 HXD0.out.size)).trans y0.2.1) ((hxc.block b2 (Nat.lt_of_lt_of_le HLB.out.2.2 HXD0.out.size)).trans y0.2.2))
          have HXDC := hid hxc.size
          have HXC := hid (HXD0.out.trans' hxc)
          have HBS := hid HXD0.out.size
          obtain ⟨vca, vcn, vcc, hvc⟩ : ∃ a n c, vc = .slice a n c := (by obtain ⟨a, c, h⟩ := hoc.slice_; exact ⟨a, _, c, h⟩)
          subst hvc
          have HOC := hid (hoc.more (G := Off (fun q => ¬ A6 q ∧ q ≠ p8) (.slice a8 n8 c8)) fun q hq => hq.1)
          clear hoc hxc
          dsimp only
          refine hK.out _ _ (fun _ => y1) ?_
          clear hK K y0
          have y0 := y1
          clear y1
          try simp only [Act.put, List.setIfInBounds_toArray, List.set_cons_zero, List.set_cons_succ]
          refine consN (i := 8) rfl (by kernel_rfl) (fun K hK => ?_)
          go_simp
          have x2 := ext_alloc wc (.cells #[.int .i64 x.i, .int .i64 x.t, .slice xa xn xc] 46)
          have y1 := And.intro ((x2.block p8 (Nat.lt_of_lt_of_le HLB.out.1 HXC.out.size)).trans y0.1) (And.intro ((x2.block p7 (Nat.lt_of_lt_of_le HLB.out.2.1 HXC.out.size)).trans y0.2.1) ((x2.block b2 (Nat.lt_of_lt_of_le HLB.out.2.2 HXC.out.size)).trans y0.2.2))
          have HNR := hid (wnews_row wc [.int .i64 x.i, .int .i64 x.t, .slice xa xn xc] 1 3 46 rfl)
          have HXB := hid (HXC.out.trans' x2)
          have HBL := hid (show wd.heap.size ≤ (wc.alloc (.cells #[.int .i64 x.i, .int .i64 x.t, .slice xa xn xc] 46)).heap.size from Nat.le_trans (Nat.le_trans (Nat.le_refl _) HXDC.out) x2.size)
          have HOC := hid (HOC.out.ext x2)
          clear x2
          refine hK.out _ _ (fun _ => y1) ?_
          clear hK K y0
          have y0 := y1
          clear y1
          try simp only [Act.put, List.setIfInBounds_toArray, List.set_cons_zero, List.set_cons_succ]
          generalize hwe : wc.alloc (.cells #[.int .i64 x.i, .int .i64 x.t, .slice xa xn xc] 46) = we at *
          obtain ⟨pb, hpb⟩ : ∃ pb, pb = wc.heap.size := ⟨_, rfl⟩
          rw [← hpb] at HNR ⊢
          clear hwe hpb
          refine consN (i := 9) rfl (by kernel_rfl) (fun K hK => ?_)
          rw [if_pos (by rfl)]
          have HYD := hid ((HXD.out.below HXB.out).keep (w' := we) (G := Off (Off (fun q => ¬ A6 q ∧ q ≠ p8) (.slice a8 n8 c8)) (.slice vca vcn vcc)) fun q hq hl => ⟨⟨HF0X.out q hq, fun e => by have h1 := (HOC.out.at_ q e).1; have h2 := HBS.out; have h3 := hq.2; have h4 := HF6i.out.size; omega⟩, rfl⟩)
          refine wp_appE (.tmp 40) (.tmp 46) rfl (Off (fun q => ¬ A6 q ∧ q ≠ p8) (.slice a8 n8 c8)) wd.heap.size (.slice vca vcn vcc) WL rfl HOC.out pb rfl ⟨x.i, x.t, xa, xn, xc⟩ x.d HNR.out HYD.out HX64.out (by have := HWLN.out; omega) HBL.out ?_
          intro v9 w9 hrow9 hb9
          have hrow9 : RowE (Off (fun q => ¬ A6 q ∧ q ≠ p8) (.slice a8 n8 c8)) _ w9 v9 (WL ++ [x]) := hrow9
          obtain ⟨a9, n9, c9, hv9, hn9⟩ : ∃ a n c, v9 = .slice a n c ∧ n = (WL ++ [x]).length := (by obtain ⟨a, c, h⟩ := hrow9.slice_; exact ⟨a, _, c, h, rfl⟩)
          subst hv9
          have hxe : Ext wi w9 := HXB.out.trans (hb9.mono HBS.out)
          have y1 := And.intro (hxe.block p8 HLB.out.1) (And.intro (hxe.block p7 HLB.out.2.1) (hxe.block b2 HLB.out.2.2))
          have HXE := hid hxe
          have HRO := hid hrow9
          have HN9 := hid hn9
          clear hrow9 hb9 hn9 hxe HYD
          refine hK.out _ _ (fun _ => y1) ?_
          clear hK K y0
          have y0 := y1
          clear y1
          try simp only [Act.put, List.setIfInBounds_toArray, List.set_cons_zero, List.set_cons_succ]
          refine runN (N := 11) (i := 10) (v := .pointer (some ⟨p8, 4, none⟩)) rfl (by kernel_rfl) (by kernel_rfl) (by kernel_rfl) (by kernel_rfl) (fun _ _ _ h => h) (by rfl) y0 (fun W hW => ?_) ?_
          · (clear hW; go_simp)
          try simp only [Act.put, List.setIfInBounds_toArray, List.set_cons_zero, List.set_cons_succ]
          refine consN (i := 11) rfl (by kernel_rfl) (fun K hK => ?_)
          obtain ⟨⟨s0, s1, s2, s3, s4⟩, sfz, sl⟩ := cells5 (y0.1.trans HB8.out)
          have sf4 := sfz 4
          have hS := (SetG.start (y0.1.trans HB8.out)).step 4 (.slice a9 n9 c9)
          have HSg := hid hS
          clear sfz hS
          go_simp
          clear s0 s1 s2 s3 s4 sf4 sl
          refine hK.out _ _ (fun h => absurd rfl h) ?_
          clear hK K y0
          try simp only [Act.put, List.setIfInBounds_toArray, List.set_cons_zero, List.set_cons_succ]
          refine wpAnyN_done (by kernel_rfl) ?_ _
          have hb8 := HSg.out.obj
          have hb8 : (w9.setCell ⟨p8, 4, none⟩ (.slice a9 n9 c9)).heap[p8]? = some (.cells #[.int .i64 u.s.v.ht, .int .i64 u.s.v.hv, .int .i64 u.s.v.i, .int .i64 u.s.v.t, .slice a9 n9 c9] 42 (0, 0)) := by simpa using hb8
          generalize w9.setCell ⟨p8, 4, none⟩ (.slice a9 n9 c9) = w11 at *
          obtain ⟨⟨s0, s1, s2, s3, s4⟩, -, sl⟩ := cells5 hb8
          have hfr : Frm (fun q => q = p8) wi w11 := Frm.after_ext HXE.out HSg.out.frm
          have hz11 : wi.heap.size ≤ w11.heap.size := hfr.size
          have hbase : wi.heap.size ≤ wd.heap.size := HBS.out
          have hrl : (WL ++ [x]).length * 40 ≤ 140737488351232 := by rw [List.length_append]; have := HWLN.out; simp; omega
          have hes9 := HRO.out.es hrl
          have hes11 := hes9.keep (w' := w11) (G := Off (fun q => ¬ A6 q ∧ q ≠ p8) (.slice a8 n8 c8)) fun q hq hl => by
            have h1 : Off (fun q => ¬ A6 q ∧ q ≠ p8) (.slice a8 n8 c8) q := by
              rcases hq with h | h
              · exact h
              exact HOUT.out q (by have := h.1; omega)
            exact ⟨h1, HSg.out.frm.block q hl h1.1.2⟩
          have hl11 := HL6.out.frm hfr fun q hq e => HP8N.out (by rw [← show q = p8 from e]; exact hq)
          have hv11 : VsR (fun q => ¬ A6 q ∧ q ≠ p8) w.heap.size w11 (.slice a8 n8 c8) (L ++ midsTo u.s.v d.l i) := HV6.out.keep (fun q hq => hfr.block q (HV6.out.at_ q hq).2 (HOW.out q hq).2) fun q hq hl => ⟨hq, hfr.block q hl hq.2⟩
          have hf11 : Frm A w w11 := HF6i.out.trans hfr fun q hq => .inr (by rw [show q = p8 from hq]; have h1 := HP8.out; have h2 := HZ23.out; have h3 := HP7.out; have h4 := HF1.out.size; omega)
          have hb7 := (hfr.block p7 HLB.out.2.1 (by have := HP8.out; show ¬ p7 = p8; omega)).trans HB7.out
          obtain ⟨UN, hUN⟩ : ∃ UN : Wv, UN = { u.s.v with l := u.s.v.l ++ d.l.take (i + 1) } := ⟨_, rfl⟩
          have hunl : UN.l = WL ++ [x] := by rw [hUN, HWL1.out]
          have hmid : (L ++ midsTo u.s.v d.l i) ++ [UN] = L ++ midsTo u.s.v d.l (i + 1) := by rw [midsTo_succ, List.append_assoc, hUN]
          have hxa := ext_alloc w11 (.cells #[.int .i64 u.s.v.ht, .int .i64 u.s.v.hv, .int .i64 u.s.v.i, .int .i64 u.s.v.t, .slice a9 n9 c9] 42)
          have HXA := hid hxa
          have HV11 := hid (hv11.ext hxa)
          have hcw := wnews_row w11 (vcell UN (a9, n9, c9)) 1 5 42 rfl
          have hvc : (vcell UN (a9, n9, c9)).toArray = #[.int .i64 u.s.v.ht, .int .i64 u.s.v.hv, .int .i64 u.s.v.i, .int .i64 u.s.v.t, .slice a9 n9 c9] := by rw [hUN]; rfl
          rw [hvc] at hcw
          have HCW := hid hcw
          have HYV := hid (show EsF (Off (fun q => ¬ A6 q ∧ q ≠ p8) (.slice a8 n8 c8)) (w11.alloc (.cells #[.int .i64 u.s.v.ht, .int .i64 u.s.v.hv, .int .i64 u.s.v.i, .int .i64 u.s.v.t, .slice a9 n9 c9] 42)) a9 n9 c9 UN.l by rw [hunl]; exact hes11.below hxa)
          have HBV := hid (show w.heap.size ≤ (w11.alloc (.cells #[.int .i64 u.s.v.ht, .int .i64 u.s.v.hv, .int .i64 u.s.v.i, .int .i64 u.s.v.t, .slice a9 n9 c9] 42)).heap.size from Nat.le_trans hf11.size hxa.size)
          have HLV := hid (show (L ++ midsTo u.s.v d.l i).length ≤ 1000000000000 by rw [List.length_append]; unfold midsTo; rw [List.length_map, List.length_range]; have := HLL.out; omega)
          have H11 := hid (And.intro hl11 (And.intro hf11 (And.intro hb8 (And.intro hb7 (And.intro hes11 (And.intro hmid hunl))))))
          have HP811 := hid (show p8 < w11.heap.size ∧ p7 < w11.heap.size from ⟨Nat.lt_of_lt_of_le HLB.out.1 hz11, Nat.lt_of_lt_of_le HLB.out.2.1 hz11⟩)
          clear hb8 hfr hz11 hbase hrl hes9 hes11 hl11 hv11 hf11 hb7 hUN hunl hmid hxa hcw hvc
          go_wp2_with (at_builtin; refine wpList_appV rfl (.tmp 49) (.tmp 51) rfl (fun q => ¬ A6 q ∧ q ≠ p8) w.heap.size (.slice a8 n8 c8) (L ++ midsTo u.s.v d.l i) rfl HV11.out w11.heap.size rfl UN (a9, n9, c9) HCW.out HYV.out HLV.out HBV.out ?_; intro v13 w13 hv13 hf13 ho13; obtain ⟨a13, n13, c13, e13⟩ : ∃ a n c, v13 = .slice a n c := (by obtain ⟨a, c, h⟩ := hv13.slice_; exact ⟨a, _, c, h⟩); subst e13; have HV13 := hid hv13; have HF13 := hid hf13; have HO13 := hid ho13; clear hv13 hf13 ho13)
          clear s0 s1 s2 s3 s4 sl
          have hfin : LoAt A6 w13 g dg r2 ∧ VsR (fun q => ¬ A6 q ∧ q ≠ p8) w.heap.size w13 (.slice a13 n13 c13) (L ++ midsTo u.s.v d.l (i + 1)) ∧ (∀ q, (Value.slice a13 n13 c13).ownBlock = some q → ¬ A6 q) ∧ Frm A w w13 ∧
              w13.heap[p8]? = some (.cells #[.int .i64 u.s.v.ht, .int .i64 u.s.v.hv, .int .i64 u.s.v.i, .int .i64 u.s.v.t, .slice a9 n9 c9] 42 (0, 0)) ∧
              w13.heap[p7]? = some (.cells #[.int .i64 d.o, .slice (some ⟨b2, o2, none⟩) en ec, .int .i64 d.ht, .int .i64 d.hv, .int .i64 d.n, .int .i64 d.t, .int .i64 d.kp, .int .i64 d.tr] 51 (0, 0)) ∧
              EsF (Off (fun q => ¬ A6 q ∧ q ≠ p8) (.slice a13 n13 c13)) w13 a9 n9 c9 (u.s.v.l ++ d.l.take (i + 1)) := by
            obtain ⟨k1, k2, k3, k4, k5, k6, k7⟩ := H11.out
            have hxa := HXA.out
            have hz := hxa.size
            have hA6l := k1.lt
            refine ⟨(k1.below hxa).frm HF13.out fun q hq hE => HO6.out q hE hq, by rw [← k6]; exact HV13.out, fun q hq hA => ?_, (k2.then_ext hxa).trans HF13.out fun q hq => .inr (HV6.out.at_ q hq).1, ?_, ?_, ?_⟩
            · rcases HO13.out q hq with h | h
              · exact HO6.out q h hA
              have := hA6l q hA; omega
            · exact (HF13.out.block p8 (Nat.lt_of_lt_of_le HP811.out.1 hz) fun e => (HOW.out p8 e).2 rfl).trans ((hxa.block p8 HP811.out.1).trans k3)
            · exact (HF13.out.block p7 (Nat.lt_of_lt_of_le HP811.out.2 hz) fun e => (HOW.out p7 e).1 rfl).trans ((hxa.block p7 HP811.out.2).trans k4)
            rw [← HWL1.out]
            refine k5.keep fun q hq hl => ⟨⟨hq.1, fun e => ?_⟩, (HF13.out.block q (Nat.lt_of_lt_of_le hl hz) hq.2).trans (hxa.block q hl)⟩
            rcases HO13.out q e with h | h
            · exact hq.2 h
            omega
          have how : ∀ q, (Value.slice a13 n13 c13).ownBlock = some q → q ≠ p7 ∧ q ≠ p8 := fun q hq => by
            rcases HO13.out q hq with h | h
            · exact HOW.out q h
            have h1 := HXA.out.size; have h2 := HP811.out; exact ⟨by omega, by omega⟩
          have HFIN := hid hfin
          have HOW13 := hid how
          clear hfin how
          go_roundw
          case rel => exact ⟨i + 1, a13, n13, c13, a9, n9, c9, by omega, by go_num, rfl, HFIN.out, HOW13.out⟩
          case measure => simp [intOf]; omega
        skip
        go_simp
        have x2 := ext_alloc wd (.cells #[.int .i64 x.i, .int .i64 x.t, .slice xa xn xc] 46)
        have y1 := And.intro ((x2.block p8 (Nat.lt_of_lt_of_le HLB.out.1 HXD0.out.size)).trans y0.1) (And.intro ((x2.block p7 (Nat.lt_of_lt_of_le HLB.out.2.1 HXD0.out.size)).trans y0.2.1) ((x2.block b2 (Nat.lt_of_lt_of_le HLB.out.2.2 HXD0.out.size)).trans y0.2.2))
        have HNR := hid (wnews_row wd [.int .i64 x.i, .int .i64 x.t, .slice xa xn xc] 1 3 46 rfl)
        have HXB := hid (HXD0.out.trans' x2)
        clear x2
        refine hK.out _ _ (fun _ => y1) ?_
        clear hK K y0
        have y0 := y1
        clear y1
        try simp only [Act.put, List.setIfInBounds_toArray, List.set_cons_zero, List.set_cons_succ]
        generalize hwe : wd.alloc (.cells #[.int .i64 x.i, .int .i64 x.t, .slice xa xn xc] 46) = we at *
        obtain ⟨pb, hpb⟩ : ∃ pb, pb = wd.heap.size := ⟨_, rfl⟩
        rw [← hpb] at HNR ⊢
        clear hwe hpb
        refine consN (i := 2) rfl (by kernel_rfl) (fun K hK => ?_)
        go_simp
        go_at_call 52
        refine Calls.mono (HCL.out we HXB.out) ?_
        rintro e wc ⟨vc, rfl, hoc, hxc⟩
        have y1 := And.intro ((hxc.block p8 (Nat.lt_of_lt_of_le HLB.out.1 HXB.out.size)).trans y0.1) (And.intro ((hxc.block p7 (Nat.lt_of_lt_of_le HLB.out.2.1 HXB.out.size)).trans y0.2.1) ((hxc.block b2 (Nat.lt_of_lt_of_le HLB.out.2.2 HXB.out.size)).trans y0.2.2))
        have HBL := hid hxc.size
        have HNR := hid (HNR.out.ext hxc)
        have HXC := hid (HXB.out.trans' hxc)
        have HBS := hid HXB.out.size
        obtain ⟨vca, vcn, vcc, hvc⟩ : ∃ a n c, vc = .slice a n c := (by obtain ⟨a, c, h⟩ := hoc.slice_; exact ⟨a, _, c, h⟩)
        subst hvc
        have HOC := hid (hoc.more (G := Off (fun q => ¬ A6 q ∧ q ≠ p8) (.slice a8 n8 c8)) fun q hq => hq.1)
        clear hoc hxc
        dsimp only
        refine hK.out _ _ (fun _ => y1) ?_
        clear hK K y0
        have y0 := y1
        clear y1
        try simp only [Act.put, List.setIfInBounds_toArray, List.set_cons_zero, List.set_cons_succ]
        refine consN (i := 9) rfl (by kernel_rfl) (fun K hK => ?_)
        rw [if_pos (by rfl)]
        have HYD := hid ((HXD.out.below HXC.out).keep (w' := wc) (G := Off (Off (fun q => ¬ A6 q ∧ q ≠ p8) (.slice a8 n8 c8)) (.slice vca vcn vcc)) fun q hq hl => ⟨⟨HF0X.out q hq, fun e => by have h1 := (HOC.out.at_ q e).1; have h2 := HBS.out; have h3 := hq.2; have h4 := HF6i.out.size; omega⟩, rfl⟩)
        refine wp_appE (.tmp 40) (.tmp 46) rfl (Off (fun q => ¬ A6 q ∧ q ≠ p8) (.slice a8 n8 c8)) we.heap.size (.slice vca vcn vcc) WL rfl HOC.out pb rfl ⟨x.i, x.t, xa, xn, xc⟩ x.d HNR.out HYD.out HX64.out (by have := HWLN.out; omega) HBL.out ?_
        intro v9 w9 hrow9 hb9
        have hrow9 : RowE (Off (fun q => ¬ A6 q ∧ q ≠ p8) (.slice a8 n8 c8)) _ w9 v9 (WL ++ [x]) := hrow9
        obtain ⟨a9, n9, c9, hv9, hn9⟩ : ∃ a n c, v9 = .slice a n c ∧ n = (WL ++ [x]).length := (by obtain ⟨a, c, h⟩ := hrow9.slice_; exact ⟨a, _, c, h, rfl⟩)
        subst hv9
        have hxe : Ext wi w9 := HXC.out.trans (hb9.mono HBS.out)
        have y1 := And.intro (hxe.block p8 HLB.out.1) (And.intro (hxe.block p7 HLB.out.2.1) (hxe.block b2 HLB.out.2.2))
        have HXE := hid hxe
        have HRO := hid hrow9
        have HN9 := hid hn9
        clear hrow9 hb9 hn9 hxe HYD
        refine hK.out _ _ (fun _ => y1) ?_
        clear hK K y0
        have y0 := y1
        clear y1
        try simp only [Act.put, List.setIfInBounds_toArray, List.set_cons_zero, List.set_cons_succ]
        refine runN (N := 11) (i := 10) (v := .pointer (some ⟨p8, 4, none⟩)) rfl (by kernel_rfl) (by kernel_rfl) (by kernel_rfl) (by kernel_rfl) (fun _ _ _ h => h) (by rfl) y0 (fun W hW => ?_) ?_
        · (clear hW; go_simp)
        try simp only [Act.put, List.setIfInBounds_toArray, List.set_cons_zero, List.set_cons_succ]
        refine consN (i := 11) rfl (by kernel_rfl) (fun K hK => ?_)
        obtain ⟨⟨s0, s1, s2, s3, s4⟩, sfz, sl⟩ := cells5 (y0.1.trans HB8.out)
        have sf4 := sfz 4
        have hS := (SetG.start (y0.1.trans HB8.out)).step 4 (.slice a9 n9 c9)
        have HSg := hid hS
        clear sfz hS
        go_simp
        clear s0 s1 s2 s3 s4 sf4 sl
        refine hK.out _ _ (fun h => absurd rfl h) ?_
        clear hK K y0
        try simp only [Act.put, List.setIfInBounds_toArray, List.set_cons_zero, List.set_cons_succ]
        refine wpAnyN_done (by kernel_rfl) ?_ _
        have hb8 := HSg.out.obj
        have hb8 : (w9.setCell ⟨p8, 4, none⟩ (.slice a9 n9 c9)).heap[p8]? = some (.cells #[.int .i64 u.s.v.ht, .int .i64 u.s.v.hv, .int .i64 u.s.v.i, .int .i64 u.s.v.t, .slice a9 n9 c9] 42 (0, 0)) := by simpa using hb8
        generalize w9.setCell ⟨p8, 4, none⟩ (.slice a9 n9 c9) = w11 at *
        obtain ⟨⟨s0, s1, s2, s3, s4⟩, -, sl⟩ := cells5 hb8
        have hfr : Frm (fun q => q = p8) wi w11 := Frm.after_ext HXE.out HSg.out.frm
        have hz11 : wi.heap.size ≤ w11.heap.size := hfr.size
        have hbase : wi.heap.size ≤ we.heap.size := HBS.out
        have hrl : (WL ++ [x]).length * 40 ≤ 140737488351232 := by rw [List.length_append]; have := HWLN.out; simp; omega
        have hes9 := HRO.out.es hrl
        have hes11 := hes9.keep (w' := w11) (G := Off (fun q => ¬ A6 q ∧ q ≠ p8) (.slice a8 n8 c8)) fun q hq hl => by
          have h1 : Off (fun q => ¬ A6 q ∧ q ≠ p8) (.slice a8 n8 c8) q := by
            rcases hq with h | h
            · exact h
            exact HOUT.out q (by have := h.1; omega)
          exact ⟨h1, HSg.out.frm.block q hl h1.1.2⟩
        have hl11 := HL6.out.frm hfr fun q hq e => HP8N.out (by rw [← show q = p8 from e]; exact hq)
        have hv11 : VsR (fun q => ¬ A6 q ∧ q ≠ p8) w.heap.size w11 (.slice a8 n8 c8) (L ++ midsTo u.s.v d.l i) := HV6.out.keep (fun q hq => hfr.block q (HV6.out.at_ q hq).2 (HOW.out q hq).2) fun q hq hl => ⟨hq, hfr.block q hl hq.2⟩
        have hf11 : Frm A w w11 := HF6i.out.trans hfr fun q hq => .inr (by rw [show q = p8 from hq]; have h1 := HP8.out; have h2 := HZ23.out; have h3 := HP7.out; have h4 := HF1.out.size; omega)
        have hb7 := (hfr.block p7 HLB.out.2.1 (by have := HP8.out; show ¬ p7 = p8; omega)).trans HB7.out
        obtain ⟨UN, hUN⟩ : ∃ UN : Wv, UN = { u.s.v with l := u.s.v.l ++ d.l.take (i + 1) } := ⟨_, rfl⟩
        have hunl : UN.l = WL ++ [x] := by rw [hUN, HWL1.out]
        have hmid : (L ++ midsTo u.s.v d.l i) ++ [UN] = L ++ midsTo u.s.v d.l (i + 1) := by rw [midsTo_succ, List.append_assoc, hUN]
        have hxa := ext_alloc w11 (.cells #[.int .i64 u.s.v.ht, .int .i64 u.s.v.hv, .int .i64 u.s.v.i, .int .i64 u.s.v.t, .slice a9 n9 c9] 42)
        have HXA := hid hxa
        have HV11 := hid (hv11.ext hxa)
        have hcw := wnews_row w11 (vcell UN (a9, n9, c9)) 1 5 42 rfl
        have hvc : (vcell UN (a9, n9, c9)).toArray = #[.int .i64 u.s.v.ht, .int .i64 u.s.v.hv, .int .i64 u.s.v.i, .int .i64 u.s.v.t, .slice a9 n9 c9] := by rw [hUN]; rfl
        rw [hvc] at hcw
        have HCW := hid hcw
        have HYV := hid (show EsF (Off (fun q => ¬ A6 q ∧ q ≠ p8) (.slice a8 n8 c8)) (w11.alloc (.cells #[.int .i64 u.s.v.ht, .int .i64 u.s.v.hv, .int .i64 u.s.v.i, .int .i64 u.s.v.t, .slice a9 n9 c9] 42)) a9 n9 c9 UN.l by rw [hunl]; exact hes11.below hxa)
        have HBV := hid (show w.heap.size ≤ (w11.alloc (.cells #[.int .i64 u.s.v.ht, .int .i64 u.s.v.hv, .int .i64 u.s.v.i, .int .i64 u.s.v.t, .slice a9 n9 c9] 42)).heap.size from Nat.le_trans hf11.size hxa.size)
        have HLV := hid (show (L ++ midsTo u.s.v d.l i).length ≤ 1000000000000 by rw [List.length_append]; unfold midsTo; rw [List.length_map, List.length_range]; have := HLL.out; omega)
        have H11 := hid (And.intro hl11 (And.intro hf11 (And.intro hb8 (And.intro hb7 (And.intro hes11 (And.intro hmid hunl))))))
        have HP811 := hid (show p8 < w11.heap.size ∧ p7 < w11.heap.size from ⟨Nat.lt_of_lt_of_le HLB.out.1 hz11, Nat.lt_of_lt_of_le HLB.out.2.1 hz11⟩)
        clear hb8 hfr hz11 hbase hrl hes9 hes11 hl11 hv11 hf11 hb7 hUN hunl hmid hxa hcw hvc
        go_wp2_with (at_builtin; refine wpList_appV rfl (.tmp 49) (.tmp 51) rfl (fun q => ¬ A6 q ∧ q ≠ p8) w.heap.size (.slice a8 n8 c8) (L ++ midsTo u.s.v d.l i) rfl HV11.out w11.heap.size rfl UN (a9, n9, c9) HCW.out HYV.out HLV.out HBV.out ?_; intro v13 w13 hv13 hf13 ho13; obtain ⟨a13, n13, c13, e13⟩ : ∃ a n c, v13 = .slice a n c := (by obtain ⟨a, c, h⟩ := hv13.slice_; exact ⟨a, _, c, h⟩); subst e13; have HV13 := hid hv13; have HF13 := hid hf13; have HO13 := hid ho13; clear hv13 hf13 ho13)
        clear s0 s1 s2 s3 s4 sl
        have hfin : LoAt A6 w13 g dg r2 ∧ VsR (fun q => ¬ A6 q ∧ q ≠ p8) w.heap.size w13 (.slice a13 n13 c13) (L ++ midsTo u.s.v d.l (i + 1)) ∧ (∀ q, (Value.slice a13 n13 c13).ownBlock = some q → ¬ A6 q) ∧ Frm A w w13 ∧
            w13.heap[p8]? = some (.cells #[.int .i64 u.s.v.ht, .int .i64 u.s.v.hv, .int .i64 u.s.v.i, .int .i64 u.s.v.t, .slice a9 n9 c9] 42 (0, 0)) ∧
            w13.heap[p7]? = some (.cells #[.int .i64 d.o, .slice (some ⟨b2, o2, none⟩) en ec, .int .i64 d.ht, .int .i64 d.hv, .int .i64 d.n, .int .i64 d.t, .int .i64 d.kp, .int .i64 d.tr] 51 (0, 0)) ∧
            EsF (Off (fun q => ¬ A6 q ∧ q ≠ p8) (.slice a13 n13 c13)) w13 a9 n9 c9 (u.s.v.l ++ d.l.take (i + 1)) := by
          obtain ⟨k1, k2, k3, k4, k5, k6, k7⟩ := H11.out
          have hxa := HXA.out
          have hz := hxa.size
          have hA6l := k1.lt
          refine ⟨(k1.below hxa).frm HF13.out fun q hq hE => HO6.out q hE hq, by rw [← k6]; exact HV13.out, fun q hq hA => ?_, (k2.then_ext hxa).trans HF13.out fun q hq => .inr (HV6.out.at_ q hq).1, ?_, ?_, ?_⟩
          · rcases HO13.out q hq with h | h
            · exact HO6.out q h hA
            have := hA6l q hA; omega
          · exact (HF13.out.block p8 (Nat.lt_of_lt_of_le HP811.out.1 hz) fun e => (HOW.out p8 e).2 rfl).trans ((hxa.block p8 HP811.out.1).trans k3)
          · exact (HF13.out.block p7 (Nat.lt_of_lt_of_le HP811.out.2 hz) fun e => (HOW.out p7 e).1 rfl).trans ((hxa.block p7 HP811.out.2).trans k4)
          rw [← HWL1.out]
          refine k5.keep fun q hq hl => ⟨⟨hq.1, fun e => ?_⟩, (HF13.out.block q (Nat.lt_of_lt_of_le hl hz) hq.2).trans (hxa.block q hl)⟩
          rcases HO13.out q e with h | h
          · exact hq.2 h
          omega
        have how : ∀ q, (Value.slice a13 n13 c13).ownBlock = some q → q ≠ p7 ∧ q ≠ p8 := fun q hq => by
          rcases HO13.out q hq with h | h
          · exact HOW.out q h
          have h1 := HXA.out.size; have h2 := HP811.out; exact ⟨by omega, by omega⟩
        have HFIN := hid hfin
        have HOW13 := hid how
        clear hfin how
        go_roundw
        case rel => exact ⟨i + 1, a13, n13, c13, a9, n9, c9, by omega, by go_num, rfl, HFIN.out, HOW13.out⟩
        case measure => simp [intOf]; omega
      have hie : i = d.l.length := by have := HENN.out; omega
      have hlp := HLP.out
      rw [hie] at hlp
      have HPX := hid (show PlayInv A g dg w r2 (L ++ midsTo u.s.v d.l d.l.length) (.slice a8 n8 c8) wr from ⟨A6, hlp.1, hlp.2.1.more fun q hq => hq.1, hlp.2.2.1, HS6.out, hlp.2.2.2.1⟩)
      clear hlp hie HLP HLOOP HOW HOWN0
      generalize wr = w7 at *
      obtain ⟨A9, t1, t2, t3, t4, t5⟩ := HPX.out
      have HVW := hid (view_any t1)
      have HA9 := hid t1.lt
      have HT1 := hid t1
      have HT2 := hid t2
      have HT3 := hid t3
      have HT4 := hid t4
      have HT5 := hid t5
      clear t1 t2 t3 t4 t5 HPX
      go_wp2_with fail
      refine Calls.mono HVW.out ?_
      rintro e wv ⟨av, nv, cv, rfl, hev, hxv⟩
      dsimp only [vwV]
      have hxa := ext_alloc wv (.cells #[.int .i64 r2.s.v.ht, .int .i64 r2.s.v.hv, .int .i64 r2.s.v.i, .int .i64 r2.s.v.t, .slice av nv cv] 42)
      have HXA := hid (hxv.trans' hxa)
      have HV9 := hid (HT2.out.ext HXA.out)
      have HCW := hid (wnews_row wv (vcell r2.s.v (av, nv, cv)) 1 5 42 rfl)
      have HY9 := hid ((hev.below hxa).more (G := Off (fun q => ¬ A9 q) (.slice a8 n8 c8)) fun q hq => ⟨fun hA => by have := HA9.out q hA; omega, fun e => by have := (HT2.out.at_ q e).2; omega⟩)
      have HB9 := hid (show w.heap.size ≤ (wv.alloc (.cells #[.int .i64 r2.s.v.ht, .int .i64 r2.s.v.hv, .int .i64 r2.s.v.i, .int .i64 r2.s.v.t, .slice av nv cv] 42)).heap.size from Nat.le_trans HT5.out.size HXA.out.size)
      have HLB := hid (show (L ++ midsTo u.s.v d.l d.l.length).length ≤ 1000000000000 by rw [List.length_append]; unfold midsTo; rw [List.length_map, List.length_range]; have := HLL.out; omega)
      clear hev hxv hxa HVW
      go_wp2_with (at_builtin; refine wpList_appV rfl (.tmp 82) (.tmp 85) rfl (fun q => ¬ A9 q) w.heap.size (.slice a8 n8 c8) (L ++ midsTo u.s.v d.l d.l.length) rfl HV9.out wv.heap.size rfl r2.s.v (av, nv, cv) HCW.out HY9.out HLB.out HB9.out ?_; intro v6 w6 hv6 hf6 ho6; obtain ⟨a6, n6, c6, hv6e⟩ : ∃ a n c, v6 = .slice a n c := (by obtain ⟨a, c, h⟩ := hv6.slice_; exact ⟨a, _, c, h⟩); subst hv6e; have HP6 := hid (PlayInv.put (HT1.out.below HXA.out) HV9.out HT3.out HT4.out (HT5.out.then_ext HXA.out) hv6 hf6 ho6); clear hv6 hf6 ho6)
      go_roundw
      case rel => exact ⟨k + 1, a6, n6, c6, by omega, by go_num, rfl, by rw [HSTEP.out]; exact HP6.out⟩
      case measure => simp [intOf]; omega
    have hb : (r1 == 0) = false := by simpa using hr1
    have HSTEP := hid (show playV v [v.s.v] (D.take (k + 1)) = (r2, L ++ [r2.s.v]) by rw [HSTEP0.out, if_neg hr1])
    have HPX := hid (show PlayInv A g dg w r2 L (.slice a5 n5 c5) w6 from ⟨_, HPL.out⟩)
    clear hr1 HPL
    obtain ⟨A9, t1, t2, t3, t4, t5⟩ := HPX.out
    have HVW := hid (view_any t1)
    have HA9 := hid t1.lt
    have HT1 := hid t1
    have HT2 := hid t2
    have HT3 := hid t3
    have HT4 := hid t4
    have HT5 := hid t5
    clear t1 t2 t3 t4 t5 HPX
    go_wp2_with fail
    refine Calls.mono HVW.out ?_
    rintro e wv ⟨av, nv, cv, rfl, hev, hxv⟩
    dsimp only [vwV]
    have hxa := ext_alloc wv (.cells #[.int .i64 r2.s.v.ht, .int .i64 r2.s.v.hv, .int .i64 r2.s.v.i, .int .i64 r2.s.v.t, .slice av nv cv] 42)
    have HXA := hid (hxv.trans' hxa)
    have HV9 := hid (HT2.out.ext HXA.out)
    have HCW := hid (wnews_row wv (vcell r2.s.v (av, nv, cv)) 1 5 42 rfl)
    have HY9 := hid ((hev.below hxa).more (G := Off (fun q => ¬ A9 q) (.slice a5 n5 c5)) fun q hq => ⟨fun hA => by have := HA9.out q hA; omega, fun e => by have := (HT2.out.at_ q e).2; omega⟩)
    have HB9 := hid (show w.heap.size ≤ (wv.alloc (.cells #[.int .i64 r2.s.v.ht, .int .i64 r2.s.v.hv, .int .i64 r2.s.v.i, .int .i64 r2.s.v.t, .slice av nv cv] 42)).heap.size from Nat.le_trans HT5.out.size HXA.out.size)
    have HLB := hid (show L.length ≤ 1000000000000 by have := HLL.out; omega)
    clear hev hxv hxa HVW
    go_wp2_with (at_builtin; refine wpList_appV rfl (.tmp 82) (.tmp 85) rfl (fun q => ¬ A9 q) w.heap.size (.slice a5 n5 c5) L rfl HV9.out wv.heap.size rfl r2.s.v (av, nv, cv) HCW.out HY9.out HLB.out HB9.out ?_; intro v6 w6 hv6 hf6 ho6; obtain ⟨a6, n6, c6, hv6e⟩ : ∃ a n c, v6 = .slice a n c := (by obtain ⟨a, c, h⟩ := hv6.slice_; exact ⟨a, _, c, h⟩); subst hv6e; have HP6 := hid (PlayInv.put (HT1.out.below HXA.out) HV9.out HT3.out HT4.out (HT5.out.then_ext HXA.out) hv6 hf6 ho6); clear hv6 hf6 ho6)
    go_roundw
    case rel => exact ⟨k + 1, a6, n6, c6, by omega, by go_num, rfl, by rw [HSTEP.out]; exact HP6.out⟩
    case measure => simp [intOf]; omega
  have hkn : k = n := by omega
  subst hkn
  have hpi := HPI.out
  rw [List.take_of_length_le (by rw [← HN.out]; exact Nat.le_refl _)] at hpi
  have HPE := hid hpi
  clear hpi HPI hlt
  go_wp2
  go_ret
  exact ⟨_, rfl, HPE.out⟩
end Go.Proofs.YtikjckdoldiddaaGreatDoor
