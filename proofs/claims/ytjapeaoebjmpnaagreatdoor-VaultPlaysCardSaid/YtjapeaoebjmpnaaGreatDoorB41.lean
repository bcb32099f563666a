/- The walks of the reference's Piece and Save (06). Printed by gen_rx5.py. -/
import Derived.Test.YtjapeaoebjmpnaaGreatDoorB40
import Derived.BigQuiet
import Derived.Deep.DeepCutAuto
namespace Go.Proofs.YtjapeaoebjmpnaaGreatDoor
open Go.RowKit Go.Maps
set_option linter.unusedVariables false
set_option linter.unusedSimpArgs false
attribute [local go_sem] bmax2 bmin2 bmax_two bmin_two

theorem IsF.raw {F : Nat → Prop} {w : World} {a : Option Addr} {n c : Nat} {l : List Int} (h : IsF F w a n c l) : RowAt w a n 1 (l.map (Value.int .i64)) := by
  obtain ⟨rfl, h2, h3, h4, h45, h5⟩ := h
  refine ⟨by simp, fun e => by have := h4 e; omega, fun p hp j u hu => ?_⟩
  obtain ⟨h6, h8⟩ := h5 p hp
  obtain ⟨b, o, s⟩ := p
  simp only [List.getElem?_map, Option.map_eq_some_iff] at hu
  obtain ⟨x, hx, rfl⟩ := hu
  obtain ⟨hj, rfl⟩ := List.getElem?_eq_some_iff.1 hx
  have h6 : s = none := h6 (by omega)
  subst h6
  rw [add_lit]
  exact (h8 j hj).2
theorem own_zero {w : World} {B : Nat} (h : B ≤ w.heap.size) (e : TypeId) (size : Nat) : (w.alloc (.cells #[] e)).ownsRow B e size (.slice (some ⟨w.heap.size, 0, none⟩) 0 0) 0 [] :=
  ⟨by simp, .inr ⟨_, 0, #[], rfl, h, heap_alloc_new _ _, by omega, by unfold maxLen; omega, by simp, by simp⟩⟩
theorem wp_appRowN {w : World} {o : Oper} {a : Act} {K : Act → World → Prop} {Q : Exit → Act → World → Prop} (s x : Operand) (t : TypeId)
    (ho : o.op = .call { callee := .builtin .append, args := #[s, x], argTypes := #[t, t] }) (base : Nat) (e : TypeId) (z : Value) (size bytes : Nat) (ht : Tryz.prog.underlying t = some (.slice e)) (hi : (Tryz.prog.info? e).map (fun i => (i.zero, i.size, i.bytes)) = some (some z, size, bytes))
    (hzs : z.cells.size = size) (hsz : 0 < size) (v : Value) (n : Nat) (xs : List Value) (hs : a.eval s = v) (hown : w.ownsRow base e size v n xs)
    (A : Option Addr) (m c : Nat) (news : List Value) (hx : a.eval x = .slice A m c) (hc : A = none → c = 0) (hr : RowAt w A m size news) (h1 : ∀ u ∈ news, u.oneCell' = true)
    (h63 : n + m ≤ maxLen) (hbytes : (n + m) * bytes ≤ 140737488355328) (hbase : base ≤ w.heap.size)
    (h : ∀ v' w', w'.ownsRow base e size v' (n + m) (xs ++ news) → w.grownBy w' v.ownBlock → (v'.ownBlock = v.ownBlock ∨ v'.ownBlock = some w.heap.size) → K (a.put o.dst v') w') : o.wp Tryz.prog a w K Q := by
  cases A with
  | none =>
    have h0 := hr.2.1 rfl
    have hc0 := hc rfl
    subst h0; subst hc0
    have hd0 : news = [] := List.eq_nil_of_length_eq_zero (by simpa using hr.1)
    subst hd0
    obtain ⟨i, hi, hz, hz1, hz2⟩ := info_parts hi
    have := h v w (by simpa using hown) (World.grownBy.refl w _) (.inl rfl)
    have hrun := run_append_owned_none (P := Tryz.prog) (w := w) base t o.type e i size ht hi v n xs hown
    unfold Oper.wp
    simpa [execOp, ho, resolve, invoke, builtin, hs, hx, hrun, Result.andThen, Oper.upon] using this
  | some ad => exact wp_appRow s x t ho base e z size bytes ht hi hzs hsz v n xs hs hown ad m c news hx hr h1 h63 hbytes hbase h

/-! ### Piece -/
def RPiecePost (G : Nat → Prop) (r : By × Bool × Int) (w : World) (e : Ending) (w' : World) : Prop :=
  ∃ a n c, e = .returned (.tuple #[.slice a n c, .bool r.2.1, .int .i64 r.2.2]) ∧ ByF G w' a n c r.1 ∧ w' = w
set_option maxRecDepth 100000 in
set_option maxHeartbeats 4000000 in
theorem RPiece_any {G : Nat → Prop} {w : World} {g dg : Nat} {v : VS} (h : RVaO G w g v.s v.some dg) (k : Int) :
    Calls Tryz.prog 78 #[.pointer (some ⟨g, 0, none⟩), .int .i64 k] w (RPiecePost G (pieceS v k) w) := by
  obtain ⟨va, vn, vc, da, dn, dc, h1, h2⟩ := h
  obtain ⟨⟨c0, c1, c2, c3, c4, c5⟩, -, hgl⟩ := cells6 h1
  obtain ⟨va', vn', vc', da', dn', dc', he, k1, k2, k3, hd⟩ := h2
  simp only [Value.agg.injEq, Array.mk.injEq, List.cons.injEq, and_true, Value.slice.injEq] at he
  obtain ⟨-, -, -, rfl, rfl, rfl⟩ := he
  have hdn : dn = v.s.d.length := hd.1
  have HD := hid hd
  have HDN := hid hdn
  clear h1 hd hdn k1 k2 k3 c0 c1 c2 c3
  by_cases hs : v.some = false
  · have e : pieceS v k = ([], false, 60) := by unfold pieceS; rw [if_pos hs]
    rw [e]
    rw [hs] at c5
    clear e hs
    go_enter Tryz.func78, Tryz.ntmps78
    go_wp2
    go_ret3
    exact ⟨none, 0, 0, rfl, ByF.nil_ _ _, rfl⟩
  have hs1 : v.some = true := by simpa using hs
  rw [hs1] at c5
  by_cases hk : k < 0 ∨ (dn : Int) < k
  · have e : pieceS v k = ([], false, 61) := by unfold pieceS; rw [if_neg hs, if_pos (by rw [← HDN.out]; exact hk)]
    rw [e]
    clear e hs hs1
    by_cases hk0 : k < 0
    · have hb : decide (k < 0) = true := by simpa using hk0
      clear hk
      go_enter Tryz.func78, Tryz.ntmps78
      go_wp2
      go_ret3
      exact ⟨none, 0, 0, rfl, ByF.nil_ _ _, rfl⟩
    have hk1 : (dn : Int) < k := by omega
    have hb : decide (k < 0) = false := by simpa using hk0
    have hb1 : decide ((dn : Int) < k) = true := by simpa using hk1
    clear hk hk0
    go_enter Tryz.func78, Tryz.ntmps78
    go_wp2
    go_ret3
    exact ⟨none, 0, 0, rfl, ByF.nil_ _ _, rfl⟩
  have e : pieceS v k = ((v.s.d.drop k.toNat).take 512, decide ((v.s.d.drop k.toNat).length ≤ 512), 0) := by unfold pieceS; rw [if_neg hs, if_neg (by rw [← HDN.out]; exact hk)]
  rw [e]
  have hk0 : decide (k < 0) = false := by simp; omega
  have hk1 : decide ((dn : Int) < k) = false := by simp; omega
  have hka : ¬ (k < 0) := by omega
  have hkb : ¬ ((dn : Int) < k) := by omega
  obtain ⟨a4, m4, k4, u1, u2, hb4⟩ := cut_l HD.out k (by omega) (by omega)
  obtain ⟨rest, hrest⟩ : ∃ rest, rest = v.s.d.drop k.toNat := ⟨_, rfl⟩
  rw [← hrest] at hb4 ⊢
  have hm4 : m4 = rest.length := hb4.1
  clear e hs hs1 hk hrest
  by_cases hle : m4 ≤ 512
  · obtain ⟨a5, m5, k5, u3, u4, hb5⟩ := cut_h hb4 (m4 : Int) (by omega) (by omega)
    have e5 : rest.take (m4 : Int).toNat = rest.take 512 := by rw [List.take_of_length_le (by omega), List.take_of_length_le (by omega)]
    rw [e5] at hb5
    have HB5 := hid hb5
    have hd1 : decide (rest.length ≤ 512) = true := by simp; omega
    rw [hd1]
    have hmin : min (512 : Int) (m4 : Int) = m4 := by omega
    have hmin1 : min (m4 : Int) 512 = m4 := by omega
    have hmin2 : ¬ ((512 : Int) < m4) := by omega
    have hle2 : (m4 : Int) ≤ 512 := by omega
    clear e5 hd1 hm4 hb4 hb5
    go_enter Tryz.func78, Tryz.ntmps78
    go_wp2
    go_ret3
    exact ⟨a5, m5, k5, rfl, HB5.out, rfl⟩
  obtain ⟨a5, m5, k5, u3, u4, hb5⟩ := cut_h hb4 512 (by omega) (by omega)
  have HB5 := hid hb5
  have hd1 : decide (rest.length ≤ 512) = false := by simp; omega
  rw [hd1]
  have hmin : min (512 : Int) (m4 : Int) = 512 := by omega
  have hmin1 : min (m4 : Int) 512 = 512 := by omega
  have hmin2 : ((512 : Int) < m4) := by omega
  have hle2 : ¬ (m4 : Int) ≤ 512 := by omega
  clear hd1 hm4 hb4 hb5 hle
  go_enter Tryz.func78, Tryz.ntmps78
  go_wp2
  go_ret3
  exact ⟨a5, m5, k5, rfl, HB5.out, rfl⟩

/-! ### Save -/
theorem rsave_new {A D D9 G : Nat → Prop} {w w4 w9 w10 w11 : World} {g dg : Nat} {s : Sn} {d : DS} {va da : Option Addr} {vn vc dn dc : Nat} (hD : ∀ q, D q → A q ∧ q ≠ g ∧ ¬ G q) (hAg : A g) (hAl : ∀ q, A q → q < w.heap.size) (hx4 : Ext w w4)
    (hd9 : RDk D9 w9 dg d) (h9 : ∀ q, D9 q → grow D w4 w9 q) (hf9 : Frm D w4 w9) (hx10 : Ext w9 w10) (hsn : SnV (fun q => w9.heap.size ≤ q ∧ q < w10.heap.size) w10 (.agg #[.int .i64 s.i, .int .i64 s.t, .slice va vn vc, .slice da dn dc]) s)
    (hS : SetG g 126 w10 w11 #[.pointer (some ⟨dg, 0, none⟩), .int .i64 s.i, .int .i64 s.t, .slice va vn vc, .slice da dn dc, .bool true]) :
    RDk D9 w11 dg d ∧ RVaO (fun q => w9.heap.size ≤ q ∧ q < w10.heap.size) w11 g s true dg ∧ (∀ q, D9 q → grow A w w11 q ∧ q ≠ g ∧ ¬ (w9.heap.size ≤ q ∧ q < w10.heap.size)) ∧ (∀ q, (w9.heap.size ≤ q ∧ q < w10.heap.size) → grow A w w11 q ∧ q ≠ g) ∧ Frm A w w11 ∧
      (∀ q, grow A w w11 q → q < w11.heap.size) := by
  have z4 := hx4.size
  have z9 := hf9.size
  have z10 := hx10.size
  have z11 := hS.size
  have hgl := hAl g hAg
  have hg9 : ¬ grow D w4 w9 g := fun h => by
    rcases h with h | h
    · exact (hD g h).2.1 rfl
    omega
  have hdl := hd9.lt
  refine ⟨(hd9.below hx10).frm hS.frm (fun q hq e => hg9 (by rw [← e]; exact h9 q hq)), ⟨va, vn, vc, da, dn, dc, hS.obj, hsn.keep fun q hq hl => ⟨hq, hS.frm.block q hl (by omega)⟩⟩, fun q hq => ?_, fun q hq => ⟨.inr ⟨by omega, by omega⟩, by omega⟩, ?_, fun q hq => ?_⟩
  · have hlq := hdl q hq
    refine ⟨?_, fun e => hg9 (by rw [← e]; exact h9 q hq), by omega⟩
    rcases h9 q hq with hq | hq
    · exact .inl (hD q hq).1
    exact .inr ⟨by omega, by omega⟩
  · exact (((Frm.of_ext hx4 A).trans hf9 fun q hq => .inl (hD q hq).1).then_ext hx10).trans hS.frm fun q hq => .inl (by rw [hq]; exact hAg)
  rcases hq with hq | hq
  · have := hAl q hq; omega
  exact hq.2
set_option maxRecDepth 100000 in
set_option maxHeartbeats 16000000 in
theorem RSave_any {A F : Nat → Prop} {w : World} {g dg : Nat} {v : VS} {val : Value} {s : Sn} (h : RVaAt A w g dg v) (hok : v.Ok) (hc : v.d.acts.length ≤ 1000000000) (hs : SnV F w val s) (hF : ∀ q, F q → ¬ A q) :
    Calls Tryz.prog 34 #[.pointer (some ⟨g, 0, none⟩), val] w (RSavePost A g dg (saveS v s) w) := by
  obtain ⟨vs, sm, vd⟩ := v
  have H0 := hid h
  have HAL := hid h.lt
  obtain ⟨D, G, hd, ho, hD, hG, hAg, -⟩ := h
  dsimp only at hd ho hc
  have HOV := hid ho
  obtain ⟨va, vn, vc, da, dn, dc, hob, hsn⟩ := ho
  obtain ⟨pa, pn, pc, qa, qn, qc, rfl, k1, k2, k3, k4⟩ := hs
  have HS := hid (show SnV F w (.agg #[.int .i64 s.i, .int .i64 s.t, .slice pa pn pc, .slice qa qn qc]) s from ⟨pa, pn, pc, qa, qn, qc, rfl, k1, k2, k3, k4⟩)
  have HI64 := hid (show In64 s.i ∧ In64 s.t from ⟨k1, k2⟩)
  have HVS := hid k3
  have HDS := hid k4
  have hgl := (Array.getElem?_eq_some_iff.1 hob).1
  have HO := hid hob
  have HD := hid hd
  have HDG := hid hD
  have HGG := hid hG
  have HAG := hid hAg
  have HF := hid hF
  have HOKD := hid hok.d
  have HOKS := hid hok.s
  have HC := hid hc
  have HGD := hid (show ¬ D g from fun h => (hD g h).2.1 rfl)
  have HDL := hid hd.lt
  have HGL := hid hgl
  clear hok hc hF hd hob hsn k1 k2 k3 k4 hD hG hAg hgl
  go_enter Tryz.func34, Tryz.ntmps34
  go_wp2_with fail
  generalize hW2 : w.alloc (.cells #[.int .i64 s.i, .int .i64 s.t, .slice pa pn pc, .slice qa qn qc] 25) = W2
  have hx2 : Ext w W2 := by rw [← hW2]; exact ext_alloc _ _
  have hz2 : W2.heap.size = w.heap.size + 1 := by rw [← hW2]; simp
  have e3 : W2.heap[w.heap.size]? = some (.cells #[.int .i64 s.i, .int .i64 s.t, .slice pa pn pc, .slice qa qn qc] 25 (0, 0)) := by rw [← hW2]; exact heap_alloc_new _ _
  have HB := hid (fun W (hW : Frm D W2 W) => (show W.heap[w.heap.size]? = some (.cells #[.int .i64 s.i, .int .i64 s.t, .slice pa pn pc, .slice qa qn qc] 25 (0, 0)) ∧
      W.heap[g]? = some (.cells #[.pointer (some ⟨dg, 0, none⟩), .int .i64 vs.i, .int .i64 vs.t, .slice va vn vc, .slice da dn dc, .bool sm] 126 (0, 0)) from by
    have h2 : W.heap[w.heap.size]? = _ := (hW.block _ (by omega) fun h => by have := HDL.out _ h; omega).trans e3
    have h3 : W.heap[g]? = _ := (hW.block _ (by have := HGL.out; omega) HGD.out).trans ((hx2.block g HGL.out).trans HO.out)
    exact ⟨h2, h3⟩))
  have HX2 := hid hx2
  have HZ2 := hid hz2
  obtain ⟨p3, hp3⟩ : ∃ p3, p3 = w.heap.size := ⟨_, rfl⟩
  rw [← hp3] at HB ⊢
  have HP3 := hid hp3
  clear hW2 hx2 hz2 e3 hp3
  refine Calls.mono (RCheck_any (HS.out.below HX2.out)) ?_
  rintro e w3 ⟨rfl, hx3⟩
  have HX3 := hid (HX2.out.trans' hx3)
  have HF3 := hid (Frm.of_ext hx3 D)
  clear hx3
  rcases checkS_vals s with hcz | hcz | hcz
  · have HCZ := hid hcz
    rw [hcz]
    clear hcz
    obtain ⟨hpo, hgo⟩ := HB.out w3 HF3.out
    obtain ⟨⟨g0, g1, g2, g3, g4, g5⟩, -, -⟩ := cells6 hgo
    obtain ⟨⟨b30, b31, b32, b33⟩, -, -⟩ := cells4 hpo
    clear hgo hpo
    obtain ⟨bad, hbad⟩ : ∃ b, b = decide (sm = true ∧ s.i ≤ vs.i) := ⟨_, rfl⟩
    have HBAD := hid hbad
    clear hbad
    go_upto_region 4 with fail
    go_cut [33] (fun s33 wx => s33 = .bool bad ∧ Hid (Ext w3 wx))
    case first =>
      cases sm with
      | false =>
        have hb : bad = false := by rw [HBAD.out]; simp
        subst hb
        refine wp_region_quiet_lit (by kernel_rfl) (by kernel_rfl) ?_
        repeat (any_goals (first | go_big_quiet_step (fail) | quiet_step (fail)))
        refine wpQuiet_nil ?_
        intro wq hwq
        obtain ⟨nq, hwq⟩ := hwq
        subst hwq
        go_wp2
        go_meet
        exact ⟨rfl, ext_drewN w3 nq⟩
      | true =>
        by_cases hle : s.i ≤ vs.i
        · have hb : bad = true := by rw [HBAD.out]; simpa using hle
          subst hb
          have hd1 : decide (s.i ≤ vs.i) = true := by simpa using hle
          clear hle
          refine wp_region_quiet_lit (by kernel_rfl) (by kernel_rfl) ?_
          repeat (any_goals (first | go_big_quiet_step (fail) | quiet_step (fail)))
          refine wpQuiet_nil ?_
          intro wq hwq
          obtain ⟨nq, hwq⟩ := hwq
          subst hwq
          go_wp2
          go_meet
          exact ⟨rfl, ext_drewN w3 nq⟩
        have hb : bad = false := by rw [HBAD.out]; simpa using hle
        subst hb
        have hd1 : decide (s.i ≤ vs.i) = false := by simpa using hle
        clear hle
        refine wp_region_quiet_lit (by kernel_rfl) (by kernel_rfl) ?_
        repeat (any_goals (first | go_big_quiet_step (fail) | quiet_step (fail)))
        refine wpQuiet_nil ?_
        intro wq hwq
        obtain ⟨nq, hwq⟩ := hwq
        subst hwq
        go_wp2
        go_meet
        exact ⟨rfl, ext_drewN w3 nq⟩
    case rest =>
      obtain ⟨rfl, HXC⟩ := hcut
      have HX3c := hid (HX3.out.trans' HXC.out)
      have HF3c := hid (HF3.out.then_ext HXC.out)
      clear b30 b31 b32 b33 g0 g1 g2 g3 g4 g5
      by_cases hlow : sm = true ∧ s.i ≤ vs.i
      · have hb : bad = true := by rw [HBAD.out]; simpa using hlow
        subst hb
        have HRES := hid (show saveS ⟨vs, sm, vd⟩ s = (51, ⟨vs, sm, vd⟩) by unfold saveS; rw [if_neg (by rw [HCZ.out]; simp), if_pos hlow])
        clear hlow
        go_wp2
        go_ret
        rw [HRES.out]
        exact H0.out.same HX3c.out _
      have hb : bad = false := by rw [HBAD.out]; simpa using hlow
      subst hb
      have HRES := hid (show saveS ⟨vs, sm, vd⟩ s = (if (layS 0 (partsB s) vd).1 ≠ 0 then ((layS 0 (partsB s) vd).1, ⟨vs, sm, if (layS 0 (partsB s) vd).1 = 7 then ((layS 0 (partsB s) vd).2.drop freshS).2.sync.2 else (layS 0 (partsB s) vd).2⟩)
        else if (threeS (layS 0 (partsB s) vd).2 (nameB s.i)).1 ≠ 0 then ((threeS (layS 0 (partsB s) vd).2 (nameB s.i)).1, ⟨vs, sm, (threeS (layS 0 (partsB s) vd).2 (nameB s.i)).2⟩)
        else if sm = true then (((threeS (layS 0 (partsB s) vd).2 (nameB s.i)).2.drop (nameB vs.i)).1, ⟨s, true, ((threeS (layS 0 (partsB s) vd).2 (nameB s.i)).2.drop (nameB vs.i)).2⟩)
        else (0, ⟨s, true, (threeS (layS 0 (partsB s) vd).2 (nameB s.i)).2⟩)) from by
        unfold saveS
        rw [if_neg (by rw [HCZ.out]; simp), if_neg hlow])
      clear hlow
      obtain ⟨hpo, hgo⟩ := HB.out wc HF3c.out
      obtain ⟨⟨g0, g1, g2, g3, g4, g5⟩, -, -⟩ := cells6 hgo
      obtain ⟨⟨b30, b31, b32, b33⟩, -, -⟩ := cells4 hpo
      clear hgo hpo
      have HPA := hid (RParts_any (HS.out.below HX3c.out) (checkS_ok HCZ.out).2.2.2.1 (checkS_ok HCZ.out).2.2.2.2.2)
      have hpl := partsB_len HCZ.out
      obtain ⟨L, hL⟩ : ∃ L, L = partsB s := ⟨_, rfl⟩
      rw [← hL] at HPA hpl HRES
      have HPL := hid hpl
      clear hL hpl
      go_wp2_with fail
      refine Calls.mono HPA.out ?_
      rintro e w4 ⟨pa2, n2, c2, rfl, hown, hx4⟩
      have hbs := hown.bs (by have := HPL.out.1; omega)
      have hn2 := hbs.1
      have HBS := hid hbs
      have HN2 := hid hn2
      have hn513 : n2 ≤ 513 := by have := HPL.out.1; omega
      have HX4 := hid (HX3c.out.trans' hx4)
      have HF4 := hid (HF3c.out.then_ext hx4)
      have HDK4 := hid (HD.out.below HX4.out)
      have HZC := hid (show w.heap.size ≤ wc.heap.size from HX3c.out.size)
      clear hown hbs hn2 hx4 HPA
      clear g0 g1 g2 g3 g4 g5 b30 b31 b32 b33
      go_wp2
      go_loopw [6, 8, 9, 37] (fun x _ _ z wr => ∃ (k m : Nat) (dk : DS), k ≤ n2 ∧ z = .int .i64 (k : Int) ∧ x = .int .i64 (m : Int) ∧ m ≤ 1000000 ∧ Hid (m = (L.take k).flatten.length) ∧ Hid (RDk (grow D w4 wr) wr dg dk) ∧ Hid (Frm D w4 wr) ∧ Hid (dk.Ok) ∧ Hid (dk.acts.length ≤ vd.acts.length + k) ∧ Hid (layS 0 L vd = layS m (L.drop k) dk)) (fun _ _ _ z _ => n2 - (intOf z).toNat)
      case atStart => exact ⟨0, 0, vd, Nat.zero_le _, rfl, rfl, by omega, rfl, HDK4.out.more (fun q hq => .inl hq) (grow.lt HDK4.out.lt (Nat.le_refl _)), Frm.refl _ _, HOKD.out, Nat.le_refl _, rfl⟩
      obtain ⟨k, m, dk, hk, rfl, rfl, hm, HM, HDk, HFk, HOk, HAk, HLk⟩ := hrel
      have HFW := hid (HF4.out.trans HFk.out fun q hq => .inl hq)
      by_cases hlt : k < n2
      · have hbw := HBS.out.keep (w' := wr) (G := fun _ => True) fun q hq hl => ⟨trivial, HFk.out.block q hl fun hD => by have := HDL.out q hD; have := HZC.out; omega⟩
        obtain ⟨rb, ro, e, hrl, hl0, a0, n0, c0, hc0, hb0⟩ := hbw.at_ (k := k) hlt
        subst e
        have hft := flat_take2 L k hl0
        have hfl := flat_len_take L (k + 1)
        have hdr : L.drop k = L[k] :: L.drop (k + 1) := List.drop_eq_getElem_cons hl0
        obtain ⟨lk, hlk⟩ : ∃ lk, lk = L[k] := ⟨_, rfl⟩
        rw [← hlk] at hft hdr hb0
        have hn0 : n0 = lk.length := hb0.1
        have HM2 := hid (show m + n0 = (L.take (k + 1)).flatten.length by rw [hft, List.length_append, ← HM.out, hn0])
        have hm2 : m + n0 ≤ 1000000 := by have := HM2.out; have := HPL.out.2; omega
        have hW := RWrite_any HDk.out HOk.out (by have := HAk.out; have := HC.out; omega) freshS (by decide) (m : Int) ⟨by omega, by omega⟩ hb0
        have hLk := HLk.out
        rw [hdr, layS_cons, ← hn0] at hLk
        have hok2 := HOk.out.write freshS (m : Int) lk
        have hac2 := DS.write_acts dk freshS (m : Int) lk
        obtain ⟨r, hr⟩ : ∃ r, r = dk.write freshS (m : Int) lk := ⟨_, rfl⟩
        rw [← hr] at hW hLk hok2 hac2
        obtain ⟨r1, r2⟩ := r
        dsimp only at hLk hok2 hac2
        have HW := hid hW
        have HLK := hid hLk
        have HOK2 := hid hok2
        have HAC2 := hid (show r2.acts.length ≤ vd.acts.length + (k + 1) by have := HAk.out; omega)
        have hki : (k : Int) < (n2 : Int) := by omega
        have hki0 : (0 : Int) ≤ (k : Int) := by omega
        clear hbw hb0 hW hdr hLk hok2 hac2 hr hl0 hrl hft hfl hn0 hlk hlt
        obtain ⟨hpo, hgo⟩ := HB.out wr HFW.out
        obtain ⟨⟨g0, g1, g2, g3, g4, g5⟩, -, -⟩ := cells6 hgo
        obtain ⟨⟨b30, b31, b32, b33⟩, -, -⟩ := cells4 hpo
        clear hgo hpo
        go_wp2_with fail
        refine Calls.mono HW.out ?_
        rintro e w5 hE
        have hN := RPost.next HDk.out HFk.out (Below.refl _ _) hE
        obtain ⟨rfl, -, -⟩ := hE
        have HN := hid hN
        have HF5 := hid (HF4.out.trans hN.2.2 fun q hq => .inl hq)
        clear hN
        clear g0 g1 g2 g3 g4 g5 b30 b31 b32 b33
        by_cases hr7 : r1 = 7
        · subst hr7
          have HL2 := hid (HLK.out.trans (if_pos (by simp)))
          have HRES2 := hid (show saveS ⟨vs, sm, vd⟩ s = (7, ⟨vs, sm, (r2.drop freshS).2.sync.2⟩) by rw [HRES.out, HL2.out, if_pos (by simp), if_pos rfl])
          obtain ⟨hpo, hgo⟩ := HB.out w5 HF5.out
          obtain ⟨⟨g0, g1, g2, g3, g4, g5⟩, -, -⟩ := cells6 hgo
          obtain ⟨⟨b30, b31, b32, b33⟩, -, -⟩ := cells4 hpo
          clear hgo hpo
          have hok6 := HOK2.out.drop freshS
          have hac6 := DS.drop_acts r2 freshS
          have HDR := hid (RDrop_any HN.out.2.1 HOK2.out (by have := HAC2.out; have := HC.out; dsimp only; omega) freshS (by decide))
          obtain ⟨r6, hr6⟩ : ∃ r6, r6 = r2.drop freshS := ⟨_, rfl⟩
          dsimp only at HDR
          rw [← hr6] at hok6 hac6 HRES2 HDR
          obtain ⟨q1, q2⟩ := r6
          have HOK6 := hid hok6
          have HAC6 := hid (show q2.acts.length ≤ vd.acts.length + (k + 2) by have := HAC2.out; dsimp only at hac6; omega)
          clear hok6 hac6 hr6
          go_wp2_with fail
          refine Calls.mono HDR.out ?_
          rintro e w6 hE
          have hN6 := RPost.next HN.out.2.1 HN.out.2.2 (Below.refl _ _) hE
          obtain ⟨rfl, -, -⟩ := hE
          have HN6 := hid hN6
          have HF6 := hid (HF4.out.trans hN6.2.2 fun q hq => .inl hq)
          clear hN6
          clear g0 g1 g2 g3 g4 g5 b30 b31 b32 b33
          obtain ⟨hpo, hgo⟩ := HB.out w6 HF6.out
          obtain ⟨⟨g0, g1, g2, g3, g4, g5⟩, -, -⟩ := cells6 hgo
          obtain ⟨⟨b30, b31, b32, b33⟩, -, -⟩ := cells4 hpo
          clear hgo hpo
          have HSY := hid (RSync_any HN6.out.2.1 HOK6.out (by have := HAC6.out; have := HC.out; dsimp only; omega))
          dsimp only at HSY HRES2
          obtain ⟨r7, hr7⟩ : ∃ r7, r7 = q2.sync := ⟨_, rfl⟩
          rw [← hr7] at HRES2 HSY
          obtain ⟨s1, s2⟩ := r7
          clear hr7
          go_wp2_with fail
          refine Calls.mono HSY.out ?_
          rintro e w7 hE
          have hN7 := RPost.next HN6.out.2.1 HN6.out.2.2 (Below.refl _ _) hE
          obtain ⟨rfl, -, -⟩ := hE
          have HN7 := hid hN7
          clear hN7
          go_wp2
          go_ret
          rw [HRES2.out]
          have hV := RVaAt.disk (v := ⟨vs, sm, vd⟩) (w := w) (HOV.out.below HX4.out) HDG.out HGG.out HAG.out HAL.out (fun q hq => by have := HDL.out q hq; have := HX4.out.size; omega) (Frm.of_ext HX4.out A) HN7.out.2.1 HN7.out.2.2
          exact ⟨rfl, hV.1, hV.2⟩
        by_cases hr0 : r1 = 0
        · subst hr0
          have HL2 := hid (HLK.out.trans (if_neg (by simp)))
          clear hr7
          go_wp2
          go_roundw
          case rel => exact ⟨k + 1, m + n0, r2, by omega, by go_num, by go_num, hm2, HM2.out, HN.out.2.1, HN.out.2.2, HOK2.out, HAC2.out, HL2.out⟩
          case measure => simp [intOf]; omega
        have HL2 := hid (HLK.out.trans (if_pos hr0))
        have HRES2 := hid (show saveS ⟨vs, sm, vd⟩ s = (r1, ⟨vs, sm, r2⟩) by rw [HRES.out, HL2.out, if_pos hr0, if_neg hr7])
        have hb0 : (r1 != 0) = true := by simpa using hr0
        have hb7 : (r1 == 7) = false := by simpa using hr7
        clear hr0 hr7
        go_wp2
        go_ret
        rw [HRES2.out]
        have hV := RVaAt.disk (v := ⟨vs, sm, vd⟩) (w := w) (HOV.out.below HX4.out) HDG.out HGG.out HAG.out HAL.out (fun q hq => by have := HDL.out q hq; have := HX4.out.size; omega) (Frm.of_ext HX4.out A) HN.out.2.1 HN.out.2.2
        exact ⟨rfl, hV.1, hV.2⟩
      have hkL : k = n2 := by omega
      have HL2 := hid (show layS 0 L vd = (0, dk) by rw [HLk.out, hkL, HN2.out, List.drop_of_length_le (Nat.le_refl _)]; rfl)
      have HRES2 := hid (show saveS ⟨vs, sm, vd⟩ s = (if (threeS dk (nameB s.i)).1 ≠ 0 then ((threeS dk (nameB s.i)).1, ⟨vs, sm, (threeS dk (nameB s.i)).2⟩)
          else if sm = true then (((threeS dk (nameB s.i)).2.drop (nameB vs.i)).1, ⟨s, true, ((threeS dk (nameB s.i)).2.drop (nameB vs.i)).2⟩)
          else (0, ⟨s, true, (threeS dk (nameB s.i)).2⟩)) by rw [HRES.out, HL2.out, if_neg (by simp)])
      have hki : ¬ (k : Int) < (n2 : Int) := by omega
      have hsy := RSync_any HDk.out HOk.out (by have := HAk.out; have := HC.out; omega)
      have hok1 := HOk.out.sync
      have hac1 := DS.sync_acts dk
      obtain ⟨nm, hnm⟩ : ∃ nm, nm = nameB s.i := ⟨_, rfl⟩
      have HNMQ := hid hnm
      rw [← hnm] at HRES2
      have hthree : threeS dk nm = if dk.sync.1 ≠ 0 then dk.sync else if (dk.sync.2.move freshS nm).1 ≠ 0 then dk.sync.2.move freshS nm else (dk.sync.2.move freshS nm).2.sync := rfl
      obtain ⟨r, hr⟩ : ∃ r, r = dk.sync := ⟨_, rfl⟩
      rw [← hr] at hsy hok1 hac1 hthree
      obtain ⟨e1, d1⟩ := r
      dsimp only at hok1 hac1 hthree
      have HSY := hid hsy
      have HOK1 := hid hok1
      have HAC1 := hid (show d1.acts.length ≤ 1000001000 by have := HAk.out; have := HC.out; omega)
      have HTHR := hid hthree
      clear hsy hok1 hac1 hthree hr hnm hkL hlt HLk HRES
      obtain ⟨hpo, hgo⟩ := HB.out wr HFW.out
      obtain ⟨⟨g0, g1, g2, g3, g4, g5⟩, -, -⟩ := cells6 hgo
      obtain ⟨⟨b30, b31, b32, b33⟩, -, -⟩ := cells4 hpo
      clear hgo hpo
      go_wp2_with fail
      refine Calls.mono HSY.out ?_
      rintro e ws hE
      have hN := RPost.next HDk.out HFk.out (Below.refl _ _) hE
      obtain ⟨rfl, -, -⟩ := hE
      have HN := hid hN
      clear hN
      clear g0 g1 g2 g3 g4 g5 b30 b31 b32 b33
      by_cases he1 : e1 = 0
      · subst he1
        have HTH1 := hid (HTHR.out.trans (if_neg (by simp)))
        have HDs := hid (show RDk (grow D w4 ws) ws dg d1 from HN.out.2.1)
        have HFs := hid (show Frm D w4 ws from HN.out.2.2)
        have HFW2 := hid (HF4.out.trans HFs.out fun q hq => .inl hq)
        have hzz : W2.heap.size ≤ w4.heap.size := HF4.out.size
        have HTR := hid (fun (W : World) (hW : Frm (grow D w4 ws) ws W) => HFW2.out.trans hW fun q hq => by
          rcases hq with hq | hq
          · exact .inl hq
          exact .inr (Nat.le_trans hzz hq.1))
        clear hzz
        obtain ⟨i1, i2⟩ := check_i HCZ.out
        have HNAM := hid (fun (W : World) => (show Calls Tryz.prog 75 #[.int .i64 s.i] W (fun e w' => e = .returned (.string ⟨(nameB s.i).toArray⟩) ∧ Ext W w') by
          obtain ⟨n, hn⟩ : ∃ n : Nat, s.i = (n : Int) := ⟨s.i.toNat, by omega⟩
          rw [hn]; exact RNm_any W (by omega)))
        have hmv := fun W (hW : Ext ws W) => RMove_any (HDs.out.below hW) HOK1.out (by have := HAC1.out; omega) freshS nm (by decide) (by rw [HNMQ.out, nameB_len (by omega) i2]; decide)
        rw [← HNMQ.out] at HNAM
        have hok2 := HOK1.out.move freshS nm
        have hac2 := DS.move_acts d1 freshS nm
        have hth := HTH1.out
        obtain ⟨r, hr⟩ : ∃ r, r = d1.move freshS nm := ⟨_, rfl⟩
        rw [← hr] at hmv hok2 hac2 hth
        obtain ⟨e2, d2⟩ := r
        dsimp only at hok2 hac2 hth
        have HMV := hid hmv
        have HOK2 := hid hok2
        have HAC2 := hid (show d2.acts.length ≤ 1000001001 by have := HAC1.out; omega)
        have HTH2 := hid hth
        clear hmv hok2 hac2 hth hr i1 i2 HTH1 HTHR
        go_wp2
        have y0 : Frm (grow D w4 ws) ws ws.drew := Frm.of_ext (ext_drew ws) _
        refine wp_region_held_drew (S := fun W => Frm (grow D w4 ws) ws W) (by kernel_rfl) y0 (fun hH => ?_)
        obtain ⟨wd, hwd⟩ : ∃ wd, wd = ws.drew := ⟨_, rfl⟩
        have HXD := hid (show Ext ws wd by rw [hwd]; exact ext_drew ws)
        rw [← hwd] at y0 ⊢
        clear hH hwd
        refine hr_ 0 (.pointer (some ⟨g, 0, none⟩)) rfl y0 (fun W hW => ?_) ?_
        · (clear hW; go_simp)
        try simp only [Act.put, sA_, s0_, sS_]
        refine hr_ 1 (.pointer (some ⟨g, 0, none⟩)) rfl y0 (fun W hW => ?_) ?_
        · (clear hW; go_simp)
        try simp only [Act.put, sA_, s0_, sS_]
        refine hr_ 2 (.pointer (some ⟨g, 0, none⟩)) rfl y0 (fun W hW => ?_) ?_
        · (clear hW; go_simp)
        try simp only [Act.put, sA_, s0_, sS_]
        refine hr_ 3 (.pointer (some ⟨dg, 0, none⟩)) rfl y0 (fun W hW => ?_) ?_
        · (obtain ⟨⟨q0, q1, q2, q3, q4, q5⟩, -, -⟩ := cells6 (HB.out W (HTR.out W hW)).2; clear hW; go_simp)
        try simp only [Act.put, sA_, s0_, sS_]
        refine hr_ 4 (.pointer (some ⟨p3, 0, none⟩)) rfl y0 (fun W hW => ?_) ?_
        · (clear hW; go_simp)
        try simp only [Act.put, sA_, s0_, sS_]
        refine hr_ 5 (.int .i64 s.i) rfl y0 (fun W hW => ?_) ?_
        · (obtain ⟨⟨q0, q1, q2, q3⟩, -, -⟩ := cells4 (HB.out W (HTR.out W hW)).1; clear hW; go_simp)
        try simp only [Act.put, sA_, s0_, sS_]
        refine hc_ 6 rfl (fun K hK => ?_)
        go_simp
        go_at_call 75
        refine Calls.mono (HNAM.out _) ?_
        rintro e wn ⟨rfl, hxn⟩
        have y1 := y0.then_ext hxn
        have HXN := hid (HXD.out.trans' hxn)
        clear hxn
        refine hK.out _ _ y1 (fun hH => ?_)
        clear hK K y0 hH
        have y0 := y1
        clear y1
        try simp only [Act.put, sA_, s0_, sS_]
        refine hc_ 7 rfl (fun K hK => ?_)
        go_simp
        go_at_call 82
        refine Calls.mono (HMV.out _ HXN.out) ?_
        rintro e wm hE
        have y1 := y0.trans hE.2.2 fun q hq => .inl hq
        have hN := RPost.next HDs.out HFs.out HXN.out hE
        obtain ⟨rfl, -, -⟩ := hE
        have HNM := hid hN
        clear hN
        dsimp only
        refine hK.out _ _ y1 (fun hH => ?_)
        clear hK K y0 hH
        have y0 := y1
        clear y1
        try simp only [Act.put, sA_, s0_, sS_]
        refine hr_ 8 (.int .i64 e2) rfl y0 (fun W hW => ?_) ?_
        · (clear hW; go_simp)
        try simp only [Act.put, sA_, s0_, sS_]
        refine wpAnyH_done (by kernel_rfl) ?_ _
        clear y0
        by_cases he2 : e2 = 0
        · subst he2
          have HTH3 := hid (HTH2.out.trans (if_neg (by simp)))
          have HDm := hid (show RDk (grow D w4 wm) wm dg d2 from HNM.out.2.1)
          have HFm := hid (show Frm D w4 wm from HNM.out.2.2)
          have HFW3 := hid (HF4.out.trans HFm.out fun q hq => .inl hq)
          have hsy := RSync_any HDm.out HOK2.out (by have := HAC2.out; omega)
          have hok3 := HOK2.out.sync
          have hac3 := DS.sync_acts d2
          have hth := HTH3.out
          obtain ⟨r, hr⟩ : ∃ r, r = d2.sync := ⟨_, rfl⟩
          rw [← hr] at hsy hok3 hac3 hth
          obtain ⟨e3, d3⟩ := r
          dsimp only at hok3 hac3
          have HSY3 := hid hsy
          have HOK3 := hid hok3
          have HAC3 := hid (show d3.acts.length ≤ 1000001002 by have := HAC2.out; omega)
          have HTH := hid hth
          clear hsy hok3 hac3 hth hr HTH3 HTH2
          obtain ⟨hpo, hgo⟩ := HB.out wm HFW3.out
          obtain ⟨⟨g0, g1, g2, g3, g4, g5⟩, -, -⟩ := cells6 hgo
          obtain ⟨⟨b30, b31, b32, b33⟩, -, -⟩ := cells4 hpo
          clear hgo hpo
          go_wp2_with fail
          refine Calls.mono HSY3.out ?_
          rintro e w9 hE
          have hN := RPost.next HDm.out HFm.out (Below.refl _ _) hE
          obtain ⟨rfl, -, -⟩ := hE
          have HN9 := hid hN
          clear hN
          clear g0 g1 g2 g3 g4 g5 b30 b31 b32 b33
          by_cases he3 : e3 = 0
          · subst he3
            have HFW9 := hid (HF4.out.trans HN9.out.2.2 fun q hq => .inl hq)
            have HRES3 := hid (show saveS ⟨vs, sm, vd⟩ s = (if sm = true then ((d3.drop (nameB vs.i)).1, ⟨s, true, (d3.drop (nameB vs.i)).2⟩) else (0, ⟨s, true, d3⟩)) by rw [HRES2.out, HTH.out, if_neg (by simp)])
            obtain ⟨hpo, hgo⟩ := HB.out w9 HFW9.out
            obtain ⟨⟨g0, g1, g2, g3, g4, g5⟩, -, -⟩ := cells6 hgo
            obtain ⟨⟨b30, b31, b32, b33⟩, -, -⟩ := cells4 hpo
            clear hgo hpo
            go_wp2
            refine wp_region_quiet_lit (by kernel_rfl) (by kernel_rfl) ?_
            repeat (any_goals (first | go_big_quiet_step (fail) | quiet_step (fail)))
            refine wpQuiet_nil ?_
            intro wq hwq
            obtain ⟨nq, hwq⟩ := hwq
            subst hwq
            clear g0 g1 g2 g3 g4 g5 b30 b31 b32 b33
            go_wp2
            have HX9 := hid (ext_drewN w9 nq)
            generalize w9.drewN nq = wz at *
            have HDz := hid (show RDk (grow D w4 wz) wz dg d3 from (HN9.out.2.1.below HX9.out).more (fun q hq => hq.imp id fun h => ⟨h.1, Nat.lt_of_lt_of_le h.2 HX9.out.size⟩) fun q hq => by
              rcases hq with hq | hq
              · have h1 := HN9.out.2.1.lt q (.inl hq); have h2 := HX9.out.size; omega
              exact hq.2)
            have HFz := hid (HN9.out.2.2.then_ext HX9.out)
            have HFWz := hid (HFW9.out.then_ext HX9.out)
            have HFwz := hid ((Frm.of_ext HX2.out D).trans HFWz.out fun q hq => .inl hq)
            have HGLz := hid (show g < wz.heap.size from Nat.lt_of_lt_of_le HGL.out HFwz.out.size)
            have HP := hid (fun (W : World) (hW : Frm (fun q => q = g) wz W) => cells4 ((hW.block p3 (Array.getElem?_eq_some_iff.1 (HB.out wz HFWz.out).1).1 (by show ¬ p3 = g; rw [HP3.out]; have := HGL.out; omega)).trans (HB.out wz HFWz.out).1))
            have HVW := hid (fun (W : World) (hW : Frm (fun q => q = g) wz W) => HVS.out.keep (w' := W) (G := fun _ => True) fun q hq hl => ⟨trivial, (hW.block q (Nat.lt_of_lt_of_le hl HFwz.out.size) (fun e => HF.out q hq (by rw [e]; exact HAG.out))).trans (HFwz.out.block q hl fun hD => HF.out q hq (HDG.out q hD).1)⟩)
            have HDW := hid (fun (W : World) (hW : Frm (fun q => q = g) wz W) => HDS.out.keep (w' := W) (G := fun _ => True) fun q hq hl => ⟨trivial, (hW.block q (Nat.lt_of_lt_of_le hl HFwz.out.size) (fun e => HF.out q hq (by rw [e]; exact HAG.out))).trans (HFwz.out.block q hl fun hD => HF.out q hq (HDG.out q hD).1)⟩)
            have HGOz := hid (HB.out wz HFWz.out).2
            have HVL := hid (show pn = s.vs.length ∧ s.vs.length ≤ 7 ∧ qn = s.d.length ∧ s.d.length ≤ 262144 from ⟨HVS.out.1, (checkS_ok HCZ.out).2.2.2.1, HDS.out.1, (checkS_ok HCZ.out).2.2.2.2.2⟩)
            have y0 : Frm (fun q => q = g) wz wz.drew := Frm.of_ext (ext_drew wz) _
            refine wp_region_held_drew (S := fun W => Frm (fun q => q = g) wz W) (by kernel_rfl) y0 (fun hH => ?_)
            obtain ⟨w20, hwd⟩ : ∃ wd, wd = wz.drew := ⟨_, rfl⟩
            have HXC0 := hid (show Ext wz w20 by rw [hwd]; exact ext_drew wz)
            rw [← hwd] at y0 ⊢
            clear hH hwd
            refine hr_ 0 (.pointer (some ⟨g, 0, none⟩)) rfl y0 (fun W hW => ?_) ?_
            · (clear hW; go_simp)
            try simp only [Act.put, sA_, s0_, sS_]
            refine hr_ 1 (.pointer (some ⟨p3, 0, none⟩)) rfl y0 (fun W hW => ?_) ?_
            · (clear hW; go_simp)
            try simp only [Act.put, sA_, s0_, sS_]
            refine hr_ 2 (.int .i64 s.i) rfl y0 (fun W hW => ?_) ?_
            · (obtain ⟨⟨q0, q1, q2, q3⟩, -, -⟩ := HP.out W hW; clear hW; go_simp)
            try simp only [Act.put, sA_, s0_, sS_]
            refine hr_ 3 (.pointer (some ⟨p3, 1, none⟩)) rfl y0 (fun W hW => ?_) ?_
            · (clear hW; go_simp)
            try simp only [Act.put, sA_, s0_, sS_]
            refine hr_ 4 (.int .i64 s.t) rfl y0 (fun W hW => ?_) ?_
            · (obtain ⟨⟨q0, q1, q2, q3⟩, -, -⟩ := HP.out W hW; clear hW; go_simp)
            try simp only [Act.put, sA_, s0_, sS_]
            refine hr_ 6 (.pointer (some ⟨p3, 2, none⟩)) rfl y0 (fun W hW => ?_) ?_
            · (clear hW; go_simp)
            try simp only [Act.put, sA_, s0_, sS_]
            refine hr_ 7 (.slice pa pn pc) rfl y0 (fun W hW => ?_) ?_
            · (obtain ⟨⟨q0, q1, q2, q3⟩, -, -⟩ := HP.out W hW; clear hW; go_simp)
            try simp only [Act.put, sA_, s0_, sS_]
            refine hr_ 10 (.pointer (some ⟨p3, 3, none⟩)) rfl y0 (fun W hW => ?_) ?_
            · (clear hW; go_simp)
            try simp only [Act.put, sA_, s0_, sS_]
            refine hr_ 11 (.slice qa qn qc) rfl y0 (fun W hW => ?_) ?_
            · (obtain ⟨⟨q0, q1, q2, q3⟩, -, -⟩ := HP.out W hW; clear hW; go_simp)
            try simp only [Act.put, sA_, s0_, sS_]
            refine wpAnyH_ready (rs := [5, 9]) (by kernel_rfl) (by simp) ?_
            refine held_cons2 (i := 5) (j := 9) rfl rfl (fun K hK => ?_) (fun K hK => ?_)
            · skip
              go_simp
              have hn := own_zero (w := w20) (B := wz.heap.size) y0.size 3 1
              have hx := ext_alloc w20 (.cells #[] 3)
              have y1 := y0.then_ext hx
              have HXC1 := hid (HXC0.out.trans' hx)
              obtain ⟨gi, hgi⟩ : ∃ gi, gi = w20.heap.size := ⟨_, rfl⟩
              rw [← hgi] at hn ⊢
              generalize w20.alloc (.cells #[] 3) = w21 at *
              have HOi1 := hid hn
              clear hn hx hgi
              refine hK.out _ _ y1 (fun hH => ?_)
              clear hK K y0 hH
              have y0 := y1
              clear y1
              try simp only [Act.put, sA_, s0_, sS_]
              refine wpAnyH_ready (rs := [8, 9]) (by kernel_rfl) (by simp) ?_
              refine held_cons2 (i := 8) (j := 9) rfl rfl (fun K hK => ?_) (fun K hK => ?_)
              · skip
                rw [if_pos (by rfl)]
                refine wp_appRowN (.tmp 109) (.tmp 111) 22 rfl wz.heap.size 3 (.int .i64 0) 1 8 Tryz.underlying22 info_int rfl (by decide) (.slice (some ⟨gi, 0, none⟩) 0 0) 0 [] rfl HOi1.out pa pn pc (s.vs.map (Value.int .i64)) rfl (HVW.out _ y0).2.2.2.1 (HVW.out _ y0).raw (fun u hu => by obtain ⟨x, -, rfl⟩ := List.mem_map.1 hu; rfl) (by have := HVL.out; unfold maxLen; omega) (by have := HVL.out; omega) y0.size ?_
                intro v' w22 hrow hgr hat
                rw [Nat.zero_add, List.nil_append] at hrow
                obtain ⟨ai, ci, hv'⟩ := own_slice2 hrow
                subst hv'
                have y1 := y0.trans (frm_grown hgr) fun q hq => .inr (HOi1.out.lt q hq).1
                have HXC2 := hid (show Ext wz w22 from ext_frm HXC1.out (frm_grown hgr) fun q hq => (HOi1.out.lt q hq).1)
                have HOi2 := hid hrow
                clear hrow hgr hat
                refine hK.out _ _ y1 (fun hH => ?_)
                clear hK K y0 hH
                have y0 := y1
                clear y1
                try simp only [Act.put, sA_, s0_, sS_]
                refine hc_ 9 rfl (fun K hK => ?_)
                go_simp
                have hn := own_zero (w := w22) (B := wz.heap.size) y0.size 5 1
                have hx := ext_alloc w22 (.cells #[] 5)
                have y1 := y0.then_ext hx
                have HXC3 := hid (HXC2.out.trans' hx)
                have HOi3 := hid (own_keep HOi2.out fun q hq => hx.block q (own_cells HOi2.out hq).1)
                have HNE3 := hid (fun q (hq : (.slice ai pn ci : Value).ownBlock = some q) (hq2 : (.slice (some ⟨w22.heap.size, 0, none⟩) 0 0 : Value).ownBlock = some q) => (by injection hq2 with h3; have h4 := (own_cells HOi2.out hq).1; have h5 := (show w22.heap.size = q from h3); omega : False))
                obtain ⟨gj, hgi⟩ : ∃ gi, gi = w22.heap.size := ⟨_, rfl⟩
                rw [← hgi] at hn ⊢
                rw [← hgi] at HNE3
                generalize w22.alloc (.cells #[] 5) = w23 at *
                have HOj3 := hid hn
                clear hn hx hgi
                refine hK.out _ _ y1 (fun hH => ?_)
                clear hK K y0 hH
                have y0 := y1
                clear y1
                try simp only [Act.put, sA_, s0_, sS_]
                refine hc_ 12 rfl (fun K hK => ?_)
                rw [if_pos (by rfl)]
                refine wp_appRowN (.tmp 113) (.tmp 115) 23 rfl wz.heap.size 5 (.int .u8 0) 1 1 Tryz.underlying23 info_u8 rfl (by decide) (.slice (some ⟨gj, 0, none⟩) 0 0) 0 [] rfl HOj3.out qa qn qc (u8s s.d) rfl (HDW.out _ y0).2.2.2.1 (HDW.out _ y0).raw (u8s_mem s.d) (by have := HVL.out; unfold maxLen; omega) (by have := HVL.out; omega) y0.size ?_
                intro v' w24 hrow hgr hat
                rw [Nat.zero_add, List.nil_append] at hrow
                obtain ⟨aj, cj, hv'⟩ := own_slice2 hrow
                subst hv'
                have y1 := y0.trans (frm_grown hgr) fun q hq => .inr (HOj3.out.lt q hq).1
                have HXC4 := hid (show Ext wz w24 from ext_frm HXC3.out (frm_grown hgr) fun q hq => (HOj3.out.lt q hq).1)
                have HOi4 := hid (own_keep HOi3.out fun q hq => hgr.block q (own_cells HOi3.out hq).1 (fun e => HNE3.out q hq e.symm))
                have HNE4 := hid (fun q (hq : (.slice ai pn ci : Value).ownBlock = some q) (hq2 : (.slice aj qn cj : Value).ownBlock = some q) => (by
                  rcases hat with h | h
                  · exact HNE3.out q hq (by rw [← h]; exact hq2)
                  rw [h] at hq2; injection hq2 with h3; have h4 := (own_cells HOi3.out hq).1; omega : False))
                have HOj4 := hid hrow
                clear hrow hgr hat
                refine hK.out _ _ y1 (fun hH => ?_)
                clear hK K y0 hH
                have y0 := y1
                clear y1
                try simp only [Act.put, sA_, s0_, sS_]
                refine hr_ 13 (.agg #[.int .i64 s.i, .int .i64 s.t, .slice ai pn ci, .slice aj qn cj]) rfl y0 (fun W hW => ?_) ?_
                · (clear hW; go_simp)
                try simp only [Act.put, sA_, s0_, sS_]
                refine hr_ 14 (.pointer (some ⟨g, 0, none⟩)) rfl y0 (fun W hW => ?_) ?_
                · (clear hW; go_simp)
                try simp only [Act.put, sA_, s0_, sS_]
                refine hr_ 15 (.pointer (some ⟨g, 1, none⟩)) rfl y0 (fun W hW => ?_) ?_
                · (clear hW; go_simp)
                try simp only [Act.put, sA_, s0_, sS_]
                refine hc_ 16 rfl (fun K hK => ?_)
                have hgo4 := (HXC4.out.block g HGLz.out).trans HGOz.out
                obtain ⟨⟨g0, g1, g2, g3, g4, g5⟩, ⟨f0, f1, f2, f3, f4, f5⟩, gl⟩ := cells6 hgo4
                have hS := ((((SetG.start hgo4).step 1 (.int .i64 s.i)).step 2 (.int .i64 s.t)).step 3 (.slice ai pn ci)).step 4 (.slice aj qn cj)
                go_simp
                generalize (((w24.setCell ⟨g, 1, none⟩ (.int .i64 s.i)).setCell ⟨g, 2, none⟩ (.int .i64 s.t)).setCell ⟨g, 3, none⟩ (.slice ai pn ci)).setCell ⟨g, 4, none⟩ (.slice aj qn cj) = w25 at *
                have y1 := y0.trans hS.frm fun q hq => .inl hq
                have HS25 := hid hS
                clear hS hgo4 g0 g1 g2 g3 g4 g5 f0 f1 f2 f3 f4 f5 gl
                refine hK.out _ _ y1 (fun hH => ?_)
                clear hK K y0 hH
                have y0 := y1
                clear y1
                try simp only [Act.put, sA_, s0_, sS_]
                refine wpAnyH_done (by kernel_rfl) ?_ _
                clear y0
                obtain ⟨⟨g0, g1, g2, g3, g4, g5⟩, ⟨f0, f1, f2, f3, f4, f5⟩, gl⟩ := cells6 HS25.out.obj
                have hS := HS25.out.step 5 (.bool true)
                have HGO11 := hid (show (w25.setCell ⟨g, 5, none⟩ (.bool true)).heap[g]? = some (.cells #[.pointer (some ⟨dg, 0, none⟩), .int .i64 s.i, .int .i64 s.t, .slice ai pn ci, .slice aj qn cj, .bool true] 126 (0, 0)) from hS.obj)
                have hsn : SnV (fun q => wz.heap.size ≤ q ∧ q < w24.heap.size) w24 (.agg #[.int .i64 s.i, .int .i64 s.t, .slice ai pn ci, .slice aj qn cj]) s := by
                  have hvl := HVL.out
                  have h1 := HOi4.out
                  have h2 := HOj4.out
                  rw [hvl.1] at h1
                  rw [hvl.2.2.1] at h2
                  have h3 := OwnI.isf (l := s.vs) h1 (by omega) HVS.out.2.2.2.2.1
                  have h4 := rown_byF h2 (by omega)
                  refine ⟨ai, pn, ci, aj, qn, cj, rfl, HI64.out.1, HI64.out.2, ?_, ?_⟩
                  · rw [hvl.1]; exact h3.more fun q hq => ⟨(h1.lt q hq).1, (own_cells h1 hq).1⟩
                  rw [hvl.2.2.1]; exact h4
                have HNEW := hid (rsave_new (G := G) HDG.out HAG.out HAL.out HX4.out HDz.out (fun q hq => hq) HFz.out HXC4.out hsn hS)
                clear hS hsn
                cases sm with
                | false =>
                  go_wp2
                  go_ret
                  obtain ⟨n1, n2, n3, n4, n5, n6⟩ := HNEW.out
                  rw [HRES3.out, if_neg (by simp)]
                  exact ⟨rfl, ⟨_, _, n1, n2, n3, n4, .inl HAG.out, n6⟩, n5⟩
                | true =>
                  have HRES4 := hid (HRES3.out.trans (if_pos rfl))
                  go_wp2
                  generalize w25.setCell ⟨g, 5, none⟩ (.bool true) = w11 at *
                  obtain ⟨n1, n2, n3, n4, n5, n6⟩ := HNEW.out
                  have N1 := hid n1
                  have N2 := hid n2
                  have N3 := hid n3
                  have N4 := hid n4
                  have N5 := hid n5
                  have N6 := hid n6
                  obtain ⟨i1, i2⟩ := check_i (HOKS.out (by trivial))
                  (try dsimp only at i1 i2)
                  have HNAM2 := hid (fun (W : World) => (show Calls Tryz.prog 75 #[.int .i64 vs.i] W (fun e w' => e = .returned (.string ⟨(nameB vs.i).toArray⟩) ∧ Ext W w') by
                    obtain ⟨n, hn⟩ : ∃ n : Nat, vs.i = (n : Int) := ⟨vs.i.toNat, by omega⟩
                    rw [hn]; exact RNm_any W (by omega)))
                  have HDP := hid (fun W (hW : Ext w11 W) => RDrop_any (N1.out.below hW) HOK3.out (by have := HAC3.out; omega) (nameB vs.i) (by rw [nameB_len (by omega) i2]; decide))
                  obtain ⟨nv, hnv⟩ : ∃ nm, nm = nameB vs.i := ⟨_, rfl⟩
                  rw [← hnv] at HNAM2 HDP HRES4
                  obtain ⟨r9, hr9⟩ : ∃ r, r = d3.drop nv := ⟨_, rfl⟩
                  rw [← hr9] at HDP HRES4
                  obtain ⟨z1, z2⟩ := r9
                  have HCL2 := hid (fun (W : World) (hW : Frm (grow D w4 wz) w11 W) => (cells6 ((hW.block g (Array.getElem?_eq_some_iff.1 HGO11.out).1 (fun h => (N3.out g h).2.1 rfl)).trans HGO11.out)).1)
                  clear n1 n2 n3 n4 n5 n6 i1 i2 hnv hr9 HNEW g0 g1 g2 g3 g4 g5 f0 f1 f2 f3 f4 f5 gl
                  have y0 : Frm (grow D w4 wz) w11 w11.drew := Frm.of_ext (ext_drew w11) _
                  refine wp_region_held_drew (S := fun W => Frm (grow D w4 wz) w11 W) (by kernel_rfl) y0 (fun hH => ?_)
                  obtain ⟨w30, hwd⟩ : ∃ wd, wd = w11.drew := ⟨_, rfl⟩
                  have HX30 := hid (show Ext w11 w30 by rw [hwd]; exact ext_drew w11)
                  rw [← hwd] at y0 ⊢
                  clear hH hwd
                  refine hr_ 0 (.pointer (some ⟨g, 0, none⟩)) rfl y0 (fun W hW => ?_) ?_
                  · (clear hW; go_simp)
                  try simp only [Act.put, sA_, s0_, sS_]
                  refine hr_ 1 (.pointer (some ⟨g, 0, none⟩)) rfl y0 (fun W hW => ?_) ?_
                  · (clear hW; go_simp)
                  try simp only [Act.put, sA_, s0_, sS_]
                  refine hr_ 2 (.pointer (some ⟨g, 0, none⟩)) rfl y0 (fun W hW => ?_) ?_
                  · (clear hW; go_simp)
                  try simp only [Act.put, sA_, s0_, sS_]
                  refine hr_ 3 (.pointer (some ⟨dg, 0, none⟩)) rfl y0 (fun W hW => ?_) ?_
                  · (obtain ⟨q0, q1, q2, q3, q4, q5⟩ := HCL2.out W hW; clear hW; go_simp)
                  try simp only [Act.put, sA_, s0_, sS_]
                  refine hr_ 4 (.int .i64 vs.i) rfl y0 (fun W hW => ?_) ?_
                  · (clear hW; go_simp)
                  try simp only [Act.put, sA_, s0_, sS_]
                  refine hc_ 5 rfl (fun K hK => ?_)
                  go_simp
                  go_at_call 75
                  refine Calls.mono (HNAM2.out _) ?_
                  rintro e w12 ⟨rfl, hxn⟩
                  have y1 := y0.then_ext hxn
                  have HX12 := hid (HX30.out.trans' hxn)
                  clear hxn
                  refine hK.out _ _ y1 (fun hH => ?_)
                  clear hK K y0 hH
                  have y0 := y1
                  clear y1
                  try simp only [Act.put, sA_, s0_, sS_]
                  refine hc_ 6 rfl (fun K hK => ?_)
                  go_simp
                  go_at_call 76
                  refine Calls.mono (HDP.out _ HX12.out) ?_
                  rintro e w13 hE
                  have y1 := y0.trans hE.2.2 fun q hq => .inl hq
                  obtain ⟨rfl, hd13, hf13⟩ := hE
                  have HD13 := hid hd13
                  have HF13 := hid hf13
                  clear hd13 hf13
                  dsimp only
                  refine hK.out _ _ y1 (fun hH => ?_)
                  clear hK K y0 hH
                  have y0 := y1
                  clear y1
                  try simp only [Act.put, sA_, s0_, sS_]
                  refine hr_ 7 (.int .i64 z1) rfl y0 (fun W hW => ?_) ?_
                  · (clear hW; go_simp)
                  try simp only [Act.put, sA_, s0_, sS_]
                  refine wpAnyH_done (by kernel_rfl) ?_ _
                  clear y0
                  go_wp2
                  go_ret
                  rw [HRES4.out]
                  have hV := RVaAt.disk (v := ⟨s, true, z2⟩) (A := grow A w w11) (w := w11) (N2.out.below HX12.out) N3.out N4.out (.inl HAG.out) N6.out (fun q hq => by have := N1.out.lt q hq; have := HX12.out.size; omega) (Frm.of_ext HX12.out _) HD13.out HF13.out
                  exact ⟨rfl, hV.1.more (grow.trans N5.out.size (by have := HX12.out.size; have := HF13.out.size; omega)) (grow.lt HAL.out (by have := N5.out.size; have := HX12.out.size; have := HF13.out.size; omega)), N5.out.trans hV.2 fun q hq => by
                    rcases hq with hq | hq
                    · exact .inl hq
                    exact .inr hq.1⟩
              skip
              go_simp
              have hn := own_zero (w := w21) (B := wz.heap.size) y0.size 5 1
              have hx := ext_alloc w21 (.cells #[] 5)
              have y1 := y0.then_ext hx
              have HXC2 := hid (HXC1.out.trans' hx)
              have HOi2 := hid (own_keep HOi1.out fun q hq => hx.block q (own_cells HOi1.out hq).1)
              have HNE2 := hid (fun q (hq : (.slice (some ⟨gi, 0, none⟩) 0 0 : Value).ownBlock = some q) (hq2 : (.slice (some ⟨w21.heap.size, 0, none⟩) 0 0 : Value).ownBlock = some q) => (by injection hq2 with h3; have h4 := (own_cells HOi1.out hq).1; have h5 := (show w21.heap.size = q from h3); omega : False))
              obtain ⟨gj, hgi⟩ : ∃ gi, gi = w21.heap.size := ⟨_, rfl⟩
              rw [← hgi] at hn ⊢
              rw [← hgi] at HNE2
              generalize w21.alloc (.cells #[] 5) = w22 at *
              have HOj2 := hid hn
              clear hn hx hgi
              refine hK.out _ _ y1 (fun hH => ?_)
              clear hK K y0 hH
              have y0 := y1
              clear y1
              try simp only [Act.put, sA_, s0_, sS_]
              refine hc_ 8 rfl (fun K hK => ?_)
              rw [if_pos (by rfl)]
              refine wp_appRowN (.tmp 109) (.tmp 111) 22 rfl wz.heap.size 3 (.int .i64 0) 1 8 Tryz.underlying22 info_int rfl (by decide) (.slice (some ⟨gi, 0, none⟩) 0 0) 0 [] rfl HOi2.out pa pn pc (s.vs.map (Value.int .i64)) rfl (HVW.out _ y0).2.2.2.1 (HVW.out _ y0).raw (fun u hu => by obtain ⟨x, -, rfl⟩ := List.mem_map.1 hu; rfl) (by have := HVL.out; unfold maxLen; omega) (by have := HVL.out; omega) y0.size ?_
              intro v' w23 hrow hgr hat
              rw [Nat.zero_add, List.nil_append] at hrow
              obtain ⟨ai, ci, hv'⟩ := own_slice2 hrow
              subst hv'
              have y1 := y0.trans (frm_grown hgr) fun q hq => .inr (HOi2.out.lt q hq).1
              have HXC3 := hid (show Ext wz w23 from ext_frm HXC2.out (frm_grown hgr) fun q hq => (HOi2.out.lt q hq).1)
              have HOj3 := hid (own_keep HOj2.out fun q hq => hgr.block q (own_cells HOj2.out hq).1 (fun e => HNE2.out q e.symm hq))
              have HNE3 := hid (fun q (hq : (.slice ai pn ci : Value).ownBlock = some q) (hq2 : (.slice (some ⟨gj, 0, none⟩) 0 0 : Value).ownBlock = some q) => (by
                rcases hat with h | h
                · exact HNE2.out q (by rw [← h]; exact hq) hq2
                rw [h] at hq; injection hq with h3; have h4 := (own_cells HOj2.out hq2).1; omega : False))
              have HOi3 := hid hrow
              clear hrow hgr hat
              refine hK.out _ _ y1 (fun hH => ?_)
              clear hK K y0 hH
              have y0 := y1
              clear y1
              try simp only [Act.put, sA_, s0_, sS_]
              refine hc_ 12 rfl (fun K hK => ?_)
              rw [if_pos (by rfl)]
              refine wp_appRowN (.tmp 113) (.tmp 115) 23 rfl wz.heap.size 5 (.int .u8 0) 1 1 Tryz.underlying23 info_u8 rfl (by decide) (.slice (some ⟨gj, 0, none⟩) 0 0) 0 [] rfl HOj3.out qa qn qc (u8s s.d) rfl (HDW.out _ y0).2.2.2.1 (HDW.out _ y0).raw (u8s_mem s.d) (by have := HVL.out; unfold maxLen; omega) (by have := HVL.out; omega) y0.size ?_
              intro v' w24 hrow hgr hat
              rw [Nat.zero_add, List.nil_append] at hrow
              obtain ⟨aj, cj, hv'⟩ := own_slice2 hrow
              subst hv'
              have y1 := y0.trans (frm_grown hgr) fun q hq => .inr (HOj3.out.lt q hq).1
              have HXC4 := hid (show Ext wz w24 from ext_frm HXC3.out (frm_grown hgr) fun q hq => (HOj3.out.lt q hq).1)
              have HOi4 := hid (own_keep HOi3.out fun q hq => hgr.block q (own_cells HOi3.out hq).1 (fun e => HNE3.out q hq e.symm))
              have HNE4 := hid (fun q (hq : (.slice ai pn ci : Value).ownBlock = some q) (hq2 : (.slice aj qn cj : Value).ownBlock = some q) => (by
                rcases hat with h | h
                · exact HNE3.out q hq (by rw [← h]; exact hq2)
                rw [h] at hq2; injection hq2 with h3; have h4 := (own_cells HOi3.out hq).1; omega : False))
              have HOj4 := hid hrow
              clear hrow hgr hat
              refine hK.out _ _ y1 (fun hH => ?_)
              clear hK K y0 hH
              have y0 := y1
              clear y1
              try simp only [Act.put, sA_, s0_, sS_]
              refine hr_ 13 (.agg #[.int .i64 s.i, .int .i64 s.t, .slice ai pn ci, .slice aj qn cj]) rfl y0 (fun W hW => ?_) ?_
              · (clear hW; go_simp)
              try simp only [Act.put, sA_, s0_, sS_]
              refine hr_ 14 (.pointer (some ⟨g, 0, none⟩)) rfl y0 (fun W hW => ?_) ?_
              · (clear hW; go_simp)
              try simp only [Act.put, sA_, s0_, sS_]
              refine hr_ 15 (.pointer (some ⟨g, 1, none⟩)) rfl y0 (fun W hW => ?_) ?_
              · (clear hW; go_simp)
              try simp only [Act.put, sA_, s0_, sS_]
              refine hc_ 16 rfl (fun K hK => ?_)
              have hgo4 := (HXC4.out.block g HGLz.out).trans HGOz.out
              obtain ⟨⟨g0, g1, g2, g3, g4, g5⟩, ⟨f0, f1, f2, f3, f4, f5⟩, gl⟩ := cells6 hgo4
              have hS := ((((SetG.start hgo4).step 1 (.int .i64 s.i)).step 2 (.int .i64 s.t)).step 3 (.slice ai pn ci)).step 4 (.slice aj qn cj)
              go_simp
              generalize (((w24.setCell ⟨g, 1, none⟩ (.int .i64 s.i)).setCell ⟨g, 2, none⟩ (.int .i64 s.t)).setCell ⟨g, 3, none⟩ (.slice ai pn ci)).setCell ⟨g, 4, none⟩ (.slice aj qn cj) = w25 at *
              have y1 := y0.trans hS.frm fun q hq => .inl hq
              have HS25 := hid hS
              clear hS hgo4 g0 g1 g2 g3 g4 g5 f0 f1 f2 f3 f4 f5 gl
              refine hK.out _ _ y1 (fun hH => ?_)
              clear hK K y0 hH
              have y0 := y1
              clear y1
              try simp only [Act.put, sA_, s0_, sS_]
              refine wpAnyH_done (by kernel_rfl) ?_ _
              clear y0
              obtain ⟨⟨g0, g1, g2, g3, g4, g5⟩, ⟨f0, f1, f2, f3, f4, f5⟩, gl⟩ := cells6 HS25.out.obj
              have hS := HS25.out.step 5 (.bool true)
              have HGO11 := hid (show (w25.setCell ⟨g, 5, none⟩ (.bool true)).heap[g]? = some (.cells #[.pointer (some ⟨dg, 0, none⟩), .int .i64 s.i, .int .i64 s.t, .slice ai pn ci, .slice aj qn cj, .bool true] 126 (0, 0)) from hS.obj)
              have hsn : SnV (fun q => wz.heap.size ≤ q ∧ q < w24.heap.size) w24 (.agg #[.int .i64 s.i, .int .i64 s.t, .slice ai pn ci, .slice aj qn cj]) s := by
                have hvl := HVL.out
                have h1 := HOi4.out
                have h2 := HOj4.out
                rw [hvl.1] at h1
                rw [hvl.2.2.1] at h2
                have h3 := OwnI.isf (l := s.vs) h1 (by omega) HVS.out.2.2.2.2.1
                have h4 := rown_byF h2 (by omega)
                refine ⟨ai, pn, ci, aj, qn, cj, rfl, HI64.out.1, HI64.out.2, ?_, ?_⟩
                · rw [hvl.1]; exact h3.more fun q hq => ⟨(h1.lt q hq).1, (own_cells h1 hq).1⟩
                rw [hvl.2.2.1]; exact h4
              have HNEW := hid (rsave_new (G := G) HDG.out HAG.out HAL.out HX4.out HDz.out (fun q hq => hq) HFz.out HXC4.out hsn hS)
              clear hS hsn
              cases sm with
              | false =>
                go_wp2
                go_ret
                obtain ⟨n1, n2, n3, n4, n5, n6⟩ := HNEW.out
                rw [HRES3.out, if_neg (by simp)]
                exact ⟨rfl, ⟨_, _, n1, n2, n3, n4, .inl HAG.out, n6⟩, n5⟩
              | true =>
                have HRES4 := hid (HRES3.out.trans (if_pos rfl))
                go_wp2
                generalize w25.setCell ⟨g, 5, none⟩ (.bool true) = w11 at *
                obtain ⟨n1, n2, n3, n4, n5, n6⟩ := HNEW.out
                have N1 := hid n1
                have N2 := hid n2
                have N3 := hid n3
                have N4 := hid n4
                have N5 := hid n5
                have N6 := hid n6
                obtain ⟨i1, i2⟩ := check_i (HOKS.out (by trivial))
                (try dsimp only at i1 i2)
                have HNAM2 := hid (fun (W : World) => (show Calls Tryz.prog 75 #[.int .i64 vs.i] W (fun e w' => e = .returned (.string ⟨(nameB vs.i).toArray⟩) ∧ Ext W w') by
                  obtain ⟨n, hn⟩ : ∃ n : Nat, vs.i = (n : Int) := ⟨vs.i.toNat, by omega⟩
                  rw [hn]; exact RNm_any W (by omega)))
                have HDP := hid (fun W (hW : Ext w11 W) => RDrop_any (N1.out.below hW) HOK3.out (by have := HAC3.out; omega) (nameB vs.i) (by rw [nameB_len (by omega) i2]; decide))
                obtain ⟨nv, hnv⟩ : ∃ nm, nm = nameB vs.i := ⟨_, rfl⟩
                rw [← hnv] at HNAM2 HDP HRES4
                obtain ⟨r9, hr9⟩ : ∃ r, r = d3.drop nv := ⟨_, rfl⟩
                rw [← hr9] at HDP HRES4
                obtain ⟨z1, z2⟩ := r9
                have HCL2 := hid (fun (W : World) (hW : Frm (grow D w4 wz) w11 W) => (cells6 ((hW.block g (Array.getElem?_eq_some_iff.1 HGO11.out).1 (fun h => (N3.out g h).2.1 rfl)).trans HGO11.out)).1)
                clear n1 n2 n3 n4 n5 n6 i1 i2 hnv hr9 HNEW g0 g1 g2 g3 g4 g5 f0 f1 f2 f3 f4 f5 gl
                have y0 : Frm (grow D w4 wz) w11 w11.drew := Frm.of_ext (ext_drew w11) _
                refine wp_region_held_drew (S := fun W => Frm (grow D w4 wz) w11 W) (by kernel_rfl) y0 (fun hH => ?_)
                obtain ⟨w30, hwd⟩ : ∃ wd, wd = w11.drew := ⟨_, rfl⟩
                have HX30 := hid (show Ext w11 w30 by rw [hwd]; exact ext_drew w11)
                rw [← hwd] at y0 ⊢
                clear hH hwd
                refine hr_ 0 (.pointer (some ⟨g, 0, none⟩)) rfl y0 (fun W hW => ?_) ?_
                · (clear hW; go_simp)
                try simp only [Act.put, sA_, s0_, sS_]
                refine hr_ 1 (.pointer (some ⟨g, 0, none⟩)) rfl y0 (fun W hW => ?_) ?_
                · (clear hW; go_simp)
                try simp only [Act.put, sA_, s0_, sS_]
                refine hr_ 2 (.pointer (some ⟨g, 0, none⟩)) rfl y0 (fun W hW => ?_) ?_
                · (clear hW; go_simp)
                try simp only [Act.put, sA_, s0_, sS_]
                refine hr_ 3 (.pointer (some ⟨dg, 0, none⟩)) rfl y0 (fun W hW => ?_) ?_
                · (obtain ⟨q0, q1, q2, q3, q4, q5⟩ := HCL2.out W hW; clear hW; go_simp)
                try simp only [Act.put, sA_, s0_, sS_]
                refine hr_ 4 (.int .i64 vs.i) rfl y0 (fun W hW => ?_) ?_
                · (clear hW; go_simp)
                try simp only [Act.put, sA_, s0_, sS_]
                refine hc_ 5 rfl (fun K hK => ?_)
                go_simp
                go_at_call 75
                refine Calls.mono (HNAM2.out _) ?_
                rintro e w12 ⟨rfl, hxn⟩
                have y1 := y0.then_ext hxn
                have HX12 := hid (HX30.out.trans' hxn)
                clear hxn
                refine hK.out _ _ y1 (fun hH => ?_)
                clear hK K y0 hH
                have y0 := y1
                clear y1
                try simp only [Act.put, sA_, s0_, sS_]
                refine hc_ 6 rfl (fun K hK => ?_)
                go_simp
                go_at_call 76
                refine Calls.mono (HDP.out _ HX12.out) ?_
                rintro e w13 hE
                have y1 := y0.trans hE.2.2 fun q hq => .inl hq
                obtain ⟨rfl, hd13, hf13⟩ := hE
                have HD13 := hid hd13
                have HF13 := hid hf13
                clear hd13 hf13
                dsimp only
                refine hK.out _ _ y1 (fun hH => ?_)
                clear hK K y0 hH
                have y0 := y1
                clear y1
                try simp only [Act.put, sA_, s0_, sS_]
                refine hr_ 7 (.int .i64 z1) rfl y0 (fun W hW => ?_) ?_
                · (clear hW; go_simp)
                try simp only [Act.put, sA_, s0_, sS_]
                refine wpAnyH_done (by kernel_rfl) ?_ _
                clear y0
                go_wp2
                go_ret
                rw [HRES4.out]
                have hV := RVaAt.disk (v := ⟨s, true, z2⟩) (A := grow A w w11) (w := w11) (N2.out.below HX12.out) N3.out N4.out (.inl HAG.out) N6.out (fun q hq => by have := N1.out.lt q hq; have := HX12.out.size; omega) (Frm.of_ext HX12.out _) HD13.out HF13.out
                exact ⟨rfl, hV.1.more (grow.trans N5.out.size (by have := HX12.out.size; have := HF13.out.size; omega)) (grow.lt HAL.out (by have := N5.out.size; have := HX12.out.size; have := HF13.out.size; omega)), N5.out.trans hV.2 fun q hq => by
                  rcases hq with hq | hq
                  · exact .inl hq
                  exact .inr hq.1⟩
            skip
            go_simp
            have hn := own_zero (w := w20) (B := wz.heap.size) y0.size 5 1
            have hx := ext_alloc w20 (.cells #[] 5)
            have y1 := y0.then_ext hx
            have HXC1 := hid (HXC0.out.trans' hx)
            obtain ⟨gj, hgi⟩ : ∃ gi, gi = w20.heap.size := ⟨_, rfl⟩
            rw [← hgi] at hn ⊢
            generalize w20.alloc (.cells #[] 5) = w21 at *
            have HOj1 := hid hn
            clear hn hx hgi
            refine hK.out _ _ y1 (fun hH => ?_)
            clear hK K y0 hH
            have y0 := y1
            clear y1
            try simp only [Act.put, sA_, s0_, sS_]
            refine hc_ 5 rfl (fun K hK => ?_)
            go_simp
            have hn := own_zero (w := w21) (B := wz.heap.size) y0.size 3 1
            have hx := ext_alloc w21 (.cells #[] 3)
            have y1 := y0.then_ext hx
            have HXC2 := hid (HXC1.out.trans' hx)
            have HOj2 := hid (own_keep HOj1.out fun q hq => hx.block q (own_cells HOj1.out hq).1)
            have HNE2 := hid (fun q (hq : (.slice (some ⟨w21.heap.size, 0, none⟩) 0 0 : Value).ownBlock = some q) (hq2 : (.slice (some ⟨gj, 0, none⟩) 0 0 : Value).ownBlock = some q) => (by injection hq with h3; have h4 := (own_cells HOj1.out hq2).1; have h5 := (show w21.heap.size = q from h3); omega : False))
            obtain ⟨gi, hgi⟩ : ∃ gi, gi = w21.heap.size := ⟨_, rfl⟩
            rw [← hgi] at hn ⊢
            rw [← hgi] at HNE2
            generalize w21.alloc (.cells #[] 3) = w22 at *
            have HOi2 := hid hn
            clear hn hx hgi
            refine hK.out _ _ y1 (fun hH => ?_)
            clear hK K y0 hH
            have y0 := y1
            clear y1
            try simp only [Act.put, sA_, s0_, sS_]
            refine hc_ 8 rfl (fun K hK => ?_)
            rw [if_pos (by rfl)]
            refine wp_appRowN (.tmp 109) (.tmp 111) 22 rfl wz.heap.size 3 (.int .i64 0) 1 8 Tryz.underlying22 info_int rfl (by decide) (.slice (some ⟨gi, 0, none⟩) 0 0) 0 [] rfl HOi2.out pa pn pc (s.vs.map (Value.int .i64)) rfl (HVW.out _ y0).2.2.2.1 (HVW.out _ y0).raw (fun u hu => by obtain ⟨x, -, rfl⟩ := List.mem_map.1 hu; rfl) (by have := HVL.out; unfold maxLen; omega) (by have := HVL.out; omega) y0.size ?_
            intro v' w23 hrow hgr hat
            rw [Nat.zero_add, List.nil_append] at hrow
            obtain ⟨ai, ci, hv'⟩ := own_slice2 hrow
            subst hv'
            have y1 := y0.trans (frm_grown hgr) fun q hq => .inr (HOi2.out.lt q hq).1
            have HXC3 := hid (show Ext wz w23 from ext_frm HXC2.out (frm_grown hgr) fun q hq => (HOi2.out.lt q hq).1)
            have HOj3 := hid (own_keep HOj2.out fun q hq => hgr.block q (own_cells HOj2.out hq).1 (fun e => HNE2.out q e.symm hq))
            have HNE3 := hid (fun q (hq : (.slice ai pn ci : Value).ownBlock = some q) (hq2 : (.slice (some ⟨gj, 0, none⟩) 0 0 : Value).ownBlock = some q) => (by
              rcases hat with h | h
              · exact HNE2.out q (by rw [← h]; exact hq) hq2
              rw [h] at hq; injection hq with h3; have h4 := (own_cells HOj2.out hq2).1; omega : False))
            have HOi3 := hid hrow
            clear hrow hgr hat
            refine hK.out _ _ y1 (fun hH => ?_)
            clear hK K y0 hH
            have y0 := y1
            clear y1
            try simp only [Act.put, sA_, s0_, sS_]
            refine hc_ 12 rfl (fun K hK => ?_)
            rw [if_pos (by rfl)]
            refine wp_appRowN (.tmp 113) (.tmp 115) 23 rfl wz.heap.size 5 (.int .u8 0) 1 1 Tryz.underlying23 info_u8 rfl (by decide) (.slice (some ⟨gj, 0, none⟩) 0 0) 0 [] rfl HOj3.out qa qn qc (u8s s.d) rfl (HDW.out _ y0).2.2.2.1 (HDW.out _ y0).raw (u8s_mem s.d) (by have := HVL.out; unfold maxLen; omega) (by have := HVL.out; omega) y0.size ?_
            intro v' w24 hrow hgr hat
            rw [Nat.zero_add, List.nil_append] at hrow
            obtain ⟨aj, cj, hv'⟩ := own_slice2 hrow
            subst hv'
            have y1 := y0.trans (frm_grown hgr) fun q hq => .inr (HOj3.out.lt q hq).1
            have HXC4 := hid (show Ext wz w24 from ext_frm HXC3.out (frm_grown hgr) fun q hq => (HOj3.out.lt q hq).1)
            have HOi4 := hid (own_keep HOi3.out fun q hq => hgr.block q (own_cells HOi3.out hq).1 (fun e => HNE3.out q hq e.symm))
            have HNE4 := hid (fun q (hq : (.slice ai pn ci : Value).ownBlock = some q) (hq2 : (.slice aj qn cj : Value).ownBlock = some q) => (by
              rcases hat with h | h
              · exact HNE3.out q hq (by rw [← h]; exact hq2)
              rw [h] at hq2; injection hq2 with h3; have h4 := (own_cells HOi3.out hq).1; omega : False))
            have HOj4 := hid hrow
            clear hrow hgr hat
            refine hK.out _ _ y1 (fun hH => ?_)
            clear hK K y0 hH
            have y0 := y1
            clear y1
            try simp only [Act.put, sA_, s0_, sS_]
            refine hr_ 13 (.agg #[.int .i64 s.i, .int .i64 s.t, .slice ai pn ci, .slice aj qn cj]) rfl y0 (fun W hW => ?_) ?_
            · (clear hW; go_simp)
            try simp only [Act.put, sA_, s0_, sS_]
            refine hr_ 14 (.pointer (some ⟨g, 0, none⟩)) rfl y0 (fun W hW => ?_) ?_
            · (clear hW; go_simp)
            try simp only [Act.put, sA_, s0_, sS_]
            refine hr_ 15 (.pointer (some ⟨g, 1, none⟩)) rfl y0 (fun W hW => ?_) ?_
            · (clear hW; go_simp)
            try simp only [Act.put, sA_, s0_, sS_]
            refine hc_ 16 rfl (fun K hK => ?_)
            have hgo4 := (HXC4.out.block g HGLz.out).trans HGOz.out
            obtain ⟨⟨g0, g1, g2, g3, g4, g5⟩, ⟨f0, f1, f2, f3, f4, f5⟩, gl⟩ := cells6 hgo4
            have hS := ((((SetG.start hgo4).step 1 (.int .i64 s.i)).step 2 (.int .i64 s.t)).step 3 (.slice ai pn ci)).step 4 (.slice aj qn cj)
            go_simp
            generalize (((w24.setCell ⟨g, 1, none⟩ (.int .i64 s.i)).setCell ⟨g, 2, none⟩ (.int .i64 s.t)).setCell ⟨g, 3, none⟩ (.slice ai pn ci)).setCell ⟨g, 4, none⟩ (.slice aj qn cj) = w25 at *
            have y1 := y0.trans hS.frm fun q hq => .inl hq
            have HS25 := hid hS
            clear hS hgo4 g0 g1 g2 g3 g4 g5 f0 f1 f2 f3 f4 f5 gl
            refine hK.out _ _ y1 (fun hH => ?_)
            clear hK K y0 hH
            have y0 := y1
            clear y1
            try simp only [Act.put, sA_, s0_, sS_]
            refine wpAnyH_done (by kernel_rfl) ?_ _
            clear y0
            obtain ⟨⟨g0, g1, g2, g3, g4, g5⟩, ⟨f0, f1, f2, f3, f4, f5⟩, gl⟩ := cells6 HS25.out.obj
            have hS := HS25.out.step 5 (.bool true)
            have HGO11 := hid (show (w25.setCell ⟨g, 5, none⟩ (.bool true)).heap[g]? = some (.cells #[.pointer (some ⟨dg, 0, none⟩), .int .i64 s.i, .int .i64 s.t, .slice ai pn ci, .slice aj qn cj, .bool true] 126 (0, 0)) from hS.obj)
            have hsn : SnV (fun q => wz.heap.size ≤ q ∧ q < w24.heap.size) w24 (.agg #[.int .i64 s.i, .int .i64 s.t, .slice ai pn ci, .slice aj qn cj]) s := by
              have hvl := HVL.out
              have h1 := HOi4.out
              have h2 := HOj4.out
              rw [hvl.1] at h1
              rw [hvl.2.2.1] at h2
              have h3 := OwnI.isf (l := s.vs) h1 (by omega) HVS.out.2.2.2.2.1
              have h4 := rown_byF h2 (by omega)
              refine ⟨ai, pn, ci, aj, qn, cj, rfl, HI64.out.1, HI64.out.2, ?_, ?_⟩
              · rw [hvl.1]; exact h3.more fun q hq => ⟨(h1.lt q hq).1, (own_cells h1 hq).1⟩
              rw [hvl.2.2.1]; exact h4
            have HNEW := hid (rsave_new (G := G) HDG.out HAG.out HAL.out HX4.out HDz.out (fun q hq => hq) HFz.out HXC4.out hsn hS)
            clear hS hsn
            cases sm with
            | false =>
              go_wp2
              go_ret
              obtain ⟨n1, n2, n3, n4, n5, n6⟩ := HNEW.out
              rw [HRES3.out, if_neg (by simp)]
              exact ⟨rfl, ⟨_, _, n1, n2, n3, n4, .inl HAG.out, n6⟩, n5⟩
            | true =>
              have HRES4 := hid (HRES3.out.trans (if_pos rfl))
              go_wp2
              generalize w25.setCell ⟨g, 5, none⟩ (.bool true) = w11 at *
              obtain ⟨n1, n2, n3, n4, n5, n6⟩ := HNEW.out
              have N1 := hid n1
              have N2 := hid n2
              have N3 := hid n3
              have N4 := hid n4
              have N5 := hid n5
              have N6 := hid n6
              obtain ⟨i1, i2⟩ := check_i (HOKS.out (by trivial))
              (try dsimp only at i1 i2)
              have HNAM2 := hid (fun (W : World) => (show Calls Tryz.prog 75 #[.int .i64 vs.i] W (fun e w' => e = .returned (.string ⟨(nameB vs.i).toArray⟩) ∧ Ext W w') by
                obtain ⟨n, hn⟩ : ∃ n : Nat, vs.i = (n : Int) := ⟨vs.i.toNat, by omega⟩
                rw [hn]; exact RNm_any W (by omega)))
              have HDP := hid (fun W (hW : Ext w11 W) => RDrop_any (N1.out.below hW) HOK3.out (by have := HAC3.out; omega) (nameB vs.i) (by rw [nameB_len (by omega) i2]; decide))
              obtain ⟨nv, hnv⟩ : ∃ nm, nm = nameB vs.i := ⟨_, rfl⟩
              rw [← hnv] at HNAM2 HDP HRES4
              obtain ⟨r9, hr9⟩ : ∃ r, r = d3.drop nv := ⟨_, rfl⟩
              rw [← hr9] at HDP HRES4
              obtain ⟨z1, z2⟩ := r9
              have HCL2 := hid (fun (W : World) (hW : Frm (grow D w4 wz) w11 W) => (cells6 ((hW.block g (Array.getElem?_eq_some_iff.1 HGO11.out).1 (fun h => (N3.out g h).2.1 rfl)).trans HGO11.out)).1)
              clear n1 n2 n3 n4 n5 n6 i1 i2 hnv hr9 HNEW g0 g1 g2 g3 g4 g5 f0 f1 f2 f3 f4 f5 gl
              have y0 : Frm (grow D w4 wz) w11 w11.drew := Frm.of_ext (ext_drew w11) _
              refine wp_region_held_drew (S := fun W => Frm (grow D w4 wz) w11 W) (by kernel_rfl) y0 (fun hH => ?_)
              obtain ⟨w30, hwd⟩ : ∃ wd, wd = w11.drew := ⟨_, rfl⟩
              have HX30 := hid (show Ext w11 w30 by rw [hwd]; exact ext_drew w11)
              rw [← hwd] at y0 ⊢
              clear hH hwd
              refine hr_ 0 (.pointer (some ⟨g, 0, none⟩)) rfl y0 (fun W hW => ?_) ?_
              · (clear hW; go_simp)
              try simp only [Act.put, sA_, s0_, sS_]
              refine hr_ 1 (.pointer (some ⟨g, 0, none⟩)) rfl y0 (fun W hW => ?_) ?_
              · (clear hW; go_simp)
              try simp only [Act.put, sA_, s0_, sS_]
              refine hr_ 2 (.pointer (some ⟨g, 0, none⟩)) rfl y0 (fun W hW => ?_) ?_
              · (clear hW; go_simp)
              try simp only [Act.put, sA_, s0_, sS_]
              refine hr_ 3 (.pointer (some ⟨dg, 0, none⟩)) rfl y0 (fun W hW => ?_) ?_
              · (obtain ⟨q0, q1, q2, q3, q4, q5⟩ := HCL2.out W hW; clear hW; go_simp)
              try simp only [Act.put, sA_, s0_, sS_]
              refine hr_ 4 (.int .i64 vs.i) rfl y0 (fun W hW => ?_) ?_
              · (clear hW; go_simp)
              try simp only [Act.put, sA_, s0_, sS_]
              refine hc_ 5 rfl (fun K hK => ?_)
              go_simp
              go_at_call 75
              refine Calls.mono (HNAM2.out _) ?_
              rintro e w12 ⟨rfl, hxn⟩
              have y1 := y0.then_ext hxn
              have HX12 := hid (HX30.out.trans' hxn)
              clear hxn
              refine hK.out _ _ y1 (fun hH => ?_)
              clear hK K y0 hH
              have y0 := y1
              clear y1
              try simp only [Act.put, sA_, s0_, sS_]
              refine hc_ 6 rfl (fun K hK => ?_)
              go_simp
              go_at_call 76
              refine Calls.mono (HDP.out _ HX12.out) ?_
              rintro e w13 hE
              have y1 := y0.trans hE.2.2 fun q hq => .inl hq
              obtain ⟨rfl, hd13, hf13⟩ := hE
              have HD13 := hid hd13
              have HF13 := hid hf13
              clear hd13 hf13
              dsimp only
              refine hK.out _ _ y1 (fun hH => ?_)
              clear hK K y0 hH
              have y0 := y1
              clear y1
              try simp only [Act.put, sA_, s0_, sS_]
              refine hr_ 7 (.int .i64 z1) rfl y0 (fun W hW => ?_) ?_
              · (clear hW; go_simp)
              try simp only [Act.put, sA_, s0_, sS_]
              refine wpAnyH_done (by kernel_rfl) ?_ _
              clear y0
              go_wp2
              go_ret
              rw [HRES4.out]
              have hV := RVaAt.disk (v := ⟨s, true, z2⟩) (A := grow A w w11) (w := w11) (N2.out.below HX12.out) N3.out N4.out (.inl HAG.out) N6.out (fun q hq => by have := N1.out.lt q hq; have := HX12.out.size; omega) (Frm.of_ext HX12.out _) HD13.out HF13.out
              exact ⟨rfl, hV.1.more (grow.trans N5.out.size (by have := HX12.out.size; have := HF13.out.size; omega)) (grow.lt HAL.out (by have := N5.out.size; have := HX12.out.size; have := HF13.out.size; omega)), N5.out.trans hV.2 fun q hq => by
                rcases hq with hq | hq
                · exact .inl hq
                exact .inr hq.1⟩
          have HNZ := hid (show (e3 : Int) ≠ 0 from he3)
          have hb : (e3 != 0) = true := by simpa using he3
          clear he3
          go_wp2
          go_ret
          rw [HRES2.out, HTH.out, if_pos HNZ.out]
          have hV := RVaAt.disk (v := ⟨vs, sm, vd⟩) (w := w) (HOV.out.below HX4.out) HDG.out HGG.out HAG.out HAL.out (fun q hq => by have := HDL.out q hq; have := HX4.out.size; omega) (Frm.of_ext HX4.out A) HN9.out.2.1 HN9.out.2.2
          exact ⟨rfl, hV.1, hV.2⟩
        have HNZ := hid (show (e2 : Int) ≠ 0 from he2)
        have HTH := hid (HTH2.out.trans (if_pos he2))
        have hb : (e2 != 0) = true := by simpa using he2
        clear he2
        go_wp2
        go_ret
        rw [HRES2.out, HTH.out, if_pos HNZ.out]
        have hV := RVaAt.disk (v := ⟨vs, sm, vd⟩) (w := w) (HOV.out.below HX4.out) HDG.out HGG.out HAG.out HAL.out (fun q hq => by have := HDL.out q hq; have := HX4.out.size; omega) (Frm.of_ext HX4.out A) HNM.out.2.1 HNM.out.2.2
        exact ⟨rfl, hV.1, hV.2⟩
      have HNZ := hid (show (e1 : Int) ≠ 0 from he1)
      have HTH := hid (HTHR.out.trans (if_pos he1))
      have hb : (e1 != 0) = true := by simpa using he1
      clear he1
      go_wp2
      go_ret
      rw [HRES2.out, HTH.out, if_pos HNZ.out]
      have hV := RVaAt.disk (v := ⟨vs, sm, vd⟩) (w := w) (HOV.out.below HX4.out) HDG.out HGG.out HAG.out HAL.out (fun q hq => by have := HDL.out q hq; have := HX4.out.size; omega) (Frm.of_ext HX4.out A) HN.out.2.1 HN.out.2.2
      exact ⟨rfl, hV.1, hV.2⟩
  · have hres : saveS ⟨vs, sm, vd⟩ s = (4, ⟨vs, sm, vd⟩) := by unfold saveS; rw [if_pos (by rw [hcz]; simp), hcz]
    rw [hcz]
    have HRES := hid hres
    clear hres hcz
    go_wp2
    go_ret
    rw [HRES.out]
    exact H0.out.same HX3.out _
  have hres : saveS ⟨vs, sm, vd⟩ s = (60, ⟨vs, sm, vd⟩) := by unfold saveS; rw [if_pos (by rw [hcz]; simp), hcz]
  rw [hcz]
  have HRES := hid hres
  clear hres hcz
  go_wp2
  go_ret
  rw [HRES.out]
  exact H0.out.same HX3.out _
end Go.Proofs.YtjapeaoebjmpnaaGreatDoor
