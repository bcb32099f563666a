/- The walk of the law LedgerTwins. -/
import Derived.Test.YtjcmgkdlkadfmaaLMergesW
import Derived.Test.YtjcmgkdlkadfmaaLr3
import Derived.Test.YtjcmgkdlkadfmaaLt1
import Derived.Test.YtjcmgkdlkadfmaaLws
import Derived.Laws.MakeOwn
namespace Go.Proofs.Ytjcmgkdlkadfmaa
open Go.RowKit
set_option linter.unusedVariables false
set_option linter.unusedSimpArgs false
attribute [local go_sem] bmax2 bmin2 bmax_two bmin_two

/-- Nothing changed but the blocks from lo to hi. -/
structure OnlyIn (w w' : World) (lo hi : Nat) : Prop where
  os : w'.os = w.os
  tape : w'.tape = w.tape
  output : w'.output = w.output
  size : w.heap.size ≤ w'.heap.size
  block : ∀ k, k < w.heap.size → ¬ (lo ≤ k ∧ k < hi) → w'.heap[k]? = w.heap[k]?
theorem OnlyIn.refl (w : World) (lo hi : Nat) : OnlyIn w w lo hi := ⟨rfl, rfl, rfl, Nat.le_refl _, fun _ _ _ => rfl⟩
theorem OnlyIn.setCell {w w' : World} {lo hi : Nat} (h : OnlyIn w w' lo hi) {a : Addr} (h1 : lo ≤ a.block) (h2 : a.block < hi) (v : Value) : OnlyIn w (w'.setCell a v) lo hi :=
  ⟨h.os, h.tape, h.output, by simpa [World.setCell] using h.size, fun k hk hn => by
    rw [heap_setCell_other _ _ k _ (by rintro rfl; exact hn ⟨h1, h2⟩)]; exact h.block k hk hn⟩
theorem OnlyIn.ext {w0 w w' : World} {lo hi : Nat} (h : OnlyIn w w' lo hi) (hx : Ext w0 w) (hlo : w0.heap.size ≤ lo) : Ext w0 w' :=
  ⟨h.os.trans hx.os, h.tape.trans hx.tape, h.output.trans hx.output, Nat.le_trans hx.size h.size, fun k hk => (h.block k (Nat.lt_of_lt_of_le hk hx.size) (by omega)).trans (hx.block k hk)⟩

set_option maxRecDepth 100000 in
set_option maxHeartbeats 20000000 in
theorem LedgerTwins_calls {F G : Nat → Prop} (i t : Int) (a : Option Addr) (n c : Nat) (l : List Ent) (op x y : Int) (a' : Option Addr) (n' c' : Nat) (l' : List Ent) (w : World) (hi : In64 i) (ht : In64 t) (hl : EsF F w a n c l)
    (ho : In64 op) (hx : In64 x) (hy : In64 y) (hl' : EsF G w a' n' c' l') :
    Calls Try.prog 11 #[baseV i t a n c, doV op x y a' n' c'] w fun e w' => e = .returned (.bool true) ∧ Ext w w' := by
  have HL := hid hl
  have HI := hid hi
  have HT := hid ht
  have HX := hid hx
  have HY := hid hy
  have HK := hid hl'
  clear hl hi ht hx hy hl'
  go_enter Try.func11, Try.ntmps11
  go_wp2_with fail
  have hx0 : Ext w ((w.alloc (.cells #[.int .i64 i, .int .i64 t, .slice a n c] 24)).alloc (.cells #[.int .i64 op, .int .i64 x, .int .i64 y, .slice a' n' c'] 59)) := Ext.trans' (ext_alloc _ _) (ext_alloc _ _)
  refine (light_any (fun _ => True) _ _ _ [l, l'] _ (by exact LLsF.two _ (HL.out.below hx0) (HK.out.below hx0) (by simp))).mono ?_
  rintro e w1 ⟨bb, rfl, hbb, hw1⟩
  obtain ⟨c0, c1, c2, hx1⟩ := base_do_cells w i t a n c op x y a' n' c' 24 59 22 (.slice a n c) (.slice a' n' c')
  rw [hw1] at hx1 c0 c1 c2
  clear hw1 hx0
  have HBB := hid hbb
  clear hbb
  cases bb with
  | false =>
    go_wp2_with fail
    refine (awake_any _).mono ?_
    rintro e w2 ⟨rfl, hb2⟩
    go_wp2
    go_ret
    exact ⟨rfl, Ext.trans' hx1 hb2⟩
  | true =>
    have hlen : l.length ≤ 200 := HBB.out rfl l (by simp)
    have hlen' : l'.length ≤ 200 := HBB.out rfl l' (by simp)
    have e0 : w1.cell? ⟨w.heap.size, 0, none⟩ = some (.int .i64 i) := by simp [World.cell?, c0]
    have e1 : w1.cell? ⟨w.heap.size, 1, none⟩ = some (.int .i64 t) := by simp [World.cell?, c0]
    have e2 : w1.cell? ⟨w.heap.size, 2, none⟩ = some (.slice a n c) := by simp [World.cell?, c0]
    have e3 : w.heap.size < w1.heap.size := by omega
    have hn : n = l.length := HL.out.1
    have hn200 : n ≤ 200 := by omega
    have HNN := hid hn
    clear hn
    have hmk : ∃ Z : Array Value, Z.size = n * 3 ∧ (Instr.makeSlice 22 (.int .i64 (n : Int)) (.int .i64 (n : Int))).run Try.prog w1 = .ok (.slice (some ⟨w1.heap.size, 0, none⟩) n n) (w1.alloc (.cells Z 54)) := by
      obtain ⟨q, hq, hz, hz1, hz2⟩ := info_parts info_ent
      have := run_make (P := Try.prog) w1 22 54 q _ Try.underlying22 hq hz .i64 .i64 (n : Int) (n : Int) (by omega) (Int.le_refl _) (by rw [hz2]; omega) (by omega)
      simp only [Int.toNat_natCast] at this
      exact ⟨_, by rw [size_madeCells, hz1], this⟩
    obtain ⟨Z, hZ, hmk⟩ := hmk
    go_wp2
    go_loopw [30] (fun z wr => ∃ k : Nat, k ≤ n ∧ z = .int .i64 k ∧ Ext w1 wr ∧ MixAt (fun q => q < w1.heap.size) wr w1.heap.size n 54 (l.take k) k) (fun z _ => n - (intOf z).toNat)
    case atStart => exact ⟨0, Nat.zero_le _, rfl, ext_alloc _ _, MixAt.none_ _ hZ (by unfold maxLen; omega)⟩
    case round =>
      clear hmk
      obtain ⟨k, hk, rfl, hb, hm⟩ := hrel
      by_cases hlt : k < n
      · obtain ⟨p, o, rfl, -, hpl, hkl, hi64, ht64, q0, q1, a9, n9, c9, q2, hd⟩ := (HL.out.below hx1).lt.at_ hlt
        have hpw : p < w1.heap.size := hpl
        have q0 := (hb.cell (p := ⟨p, o + k * 3, none⟩) hpl).trans q0
        have q1 := (hb.cell (p := ⟨p, o + k * 3 + 1, none⟩) hpl).trans q1
        have q2 := (hb.cell (p := ⟨p, o + k * 3 + 2, none⟩) hpl).trans q2
        have hbs := hb.size
        have hpr : p < wr.heap.size := by omega
        obtain ⟨-, -, -, -, hgl⟩ := hm.cells (k := k) (by omega)
        have hd1 := (hd.more (G := fun q => q < w1.heap.size) fun _ h => h.2).below hb
        obtain ⟨⟨v0, y0⟩, ⟨v1, y1⟩, ⟨v2, y2⟩, hfz, hgx⟩ := hm.cells (k := k) (by omega)
        have hst := hm.store hkl (by have := HNN.out; omega) (by omega) (by omega) hi64 ht64 hd1
        have hf0 := hfz (k * 3)
        have hf1 := hfz (k * 3 + 1)
        have hf2 := hfz (k * 3 + 2)
        have hek : ∃ E, E = l[k] := ⟨_, rfl⟩
        obtain ⟨E, hE⟩ := hek
        rw [← hE] at q0 q1 hst hd1 hi64 ht64
        have HE := hid hE
        have HST := hid hst
        have HD1 := hid hd1
        clear hm hst hd hd1 hE hfz hi64 ht64
        have hgr : w1.heap.size < wr.heap.size := hgl
        have hgne : wr.heap.size ≠ w1.heap.size := by omega
        obtain ⟨z0, z1, z2, z3, z4, z5⟩ := set3_cell wr w1.heap.size (k * 3) (.int .i64 E.i) (.int .i64 E.t) (.slice a9 n9 c9) v0 v1 v2 y0 y1 y2
        obtain rfl : n9 = E.d.length := HD1.out.1
        have hsA : ((((wr.setCell ⟨w1.heap.size, k * 3, none⟩ (.int .i64 E.i)).setCell ⟨w1.heap.size, k * 3 + 1, none⟩ (.int .i64 E.t)).setCell ⟨w1.heap.size, k * 3 + 2, none⟩ (.slice a9 E.d.length c9)).alloc (.cells #[.int .i64 E.i, .int .i64 E.t, .slice a9 E.d.length c9] 54)).heap.size = wr.heap.size + 1 := by simp [World.setCell]
        have hsB : (((((wr.setCell ⟨w1.heap.size, k * 3, none⟩ (.int .i64 E.i)).setCell ⟨w1.heap.size, k * 3 + 1, none⟩ (.int .i64 E.t)).setCell ⟨w1.heap.size, k * 3 + 2, none⟩ (.slice a9 E.d.length c9)).alloc (.cells #[.int .i64 E.i, .int .i64 E.t, .slice a9 E.d.length c9] 54)).alloc (.cells #[] 5)).heap.size = wr.heap.size + 1 + 1 := by simp [World.setCell]
        have hmA : MixAt (fun q => q < w1.heap.size) ((((wr.setCell ⟨w1.heap.size, k * 3, none⟩ (.int .i64 E.i)).setCell ⟨w1.heap.size, k * 3 + 1, none⟩ (.int .i64 E.t)).setCell ⟨w1.heap.size, k * 3 + 2, none⟩ (.slice a9 E.d.length c9)).alloc (.cells #[.int .i64 E.i, .int .i64 E.t, .slice a9 E.d.length c9] 54)) w1.heap.size n 54 (l.take (k + 1)) k := HST.out.alloc (ext_alloc _ _) (by rw [z5]; exact hgr)
        have hdB : ByF (fun q => q < w1.heap.size) (((((wr.setCell ⟨w1.heap.size, k * 3, none⟩ (.int .i64 E.i)).setCell ⟨w1.heap.size, k * 3 + 1, none⟩ (.int .i64 E.t)).setCell ⟨w1.heap.size, k * 3 + 2, none⟩ (.slice a9 E.d.length c9)).alloc (.cells #[.int .i64 E.i, .int .i64 E.t, .slice a9 E.d.length c9] 54)).alloc (.cells #[] 5)) a9 E.d.length c9 E.d := (HD1.out.keep (G := fun q => q < w1.heap.size) (w' := (((wr.setCell ⟨w1.heap.size, k * 3, none⟩ (.int .i64 E.i)).setCell ⟨w1.heap.size, k * 3 + 1, none⟩ (.int .i64 E.t)).setCell ⟨w1.heap.size, k * 3 + 2, none⟩ (.slice a9 E.d.length c9))) (fun q hq _ => ⟨hq, z4 q (by omega)⟩)).below (Ext.trans' (ext_alloc _ _) (ext_alloc _ _))
        have hrB : (((((wr.setCell ⟨w1.heap.size, k * 3, none⟩ (.int .i64 E.i)).setCell ⟨w1.heap.size, k * 3 + 1, none⟩ (.int .i64 E.t)).setCell ⟨w1.heap.size, k * 3 + 2, none⟩ (.slice a9 E.d.length c9)).alloc (.cells #[.int .i64 E.i, .int .i64 E.t, .slice a9 E.d.length c9] 54)).alloc (.cells #[] 5)).ownsRow (wr.heap.size + 1) 5 1 (.slice (some ⟨wr.heap.size + 1, 0, none⟩) 0 0) 0 [] := by
          have := World.ownsRow_made ((((wr.setCell ⟨w1.heap.size, k * 3, none⟩ (.int .i64 E.i)).setCell ⟨w1.heap.size, k * 3 + 1, none⟩ (.int .i64 E.t)).setCell ⟨w1.heap.size, k * 3 + 2, none⟩ (.slice a9 E.d.length c9)).alloc (.cells #[.int .i64 E.i, .int .i64 E.t, .slice a9 E.d.length c9] 54)) (base := wr.heap.size + 1) (e := 5) (size := 1) #[] 0 (by rw [hsA]; exact Nat.le_refl _) (Nat.zero_le _) rfl
          rw [hsA] at this
          exact this
        have hbA : Ext w1 ((((wr.setCell ⟨w1.heap.size, k * 3, none⟩ (.int .i64 E.i)).setCell ⟨w1.heap.size, k * 3 + 1, none⟩ (.int .i64 E.t)).setCell ⟨w1.heap.size, k * 3 + 2, none⟩ (.slice a9 E.d.length c9)).alloc (.cells #[.int .i64 E.i, .int .i64 E.t, .slice a9 E.d.length c9] 54)) := ⟨hb.os, hb.tape, hb.output, by rw [hsA]; omega, fun q hq => by
          rw [Below.heap_alloc _ _ _ (by rw [z5]; omega), z4 q (by omega)]; exact hb.block q hq⟩
        have hm40 : E.d.length ≤ 140737488351232 := HD1.out.2.2.1.2
        have hzA : ((((wr.setCell ⟨w1.heap.size, k * 3, none⟩ (.int .i64 E.i)).setCell ⟨w1.heap.size, k * 3 + 1, none⟩ (.int .i64 E.t)).setCell ⟨w1.heap.size, k * 3 + 2, none⟩ (.slice a9 E.d.length c9)).alloc (.cells #[.int .i64 E.i, .int .i64 E.t, .slice a9 E.d.length c9] 54)).cell? ⟨w1.heap.size, k * 3 + 2, none⟩ = some (.slice a9 E.d.length c9) := ((ext_alloc _ _).cell (p := ⟨w1.heap.size, k * 3 + 2, none⟩) (by rw [z5]; exact hgr)).trans z2
        have hfA : ((((wr.setCell ⟨w1.heap.size, k * 3, none⟩ (.int .i64 E.i)).setCell ⟨w1.heap.size, k * 3 + 1, none⟩ (.int .i64 E.t)).setCell ⟨w1.heap.size, k * 3 + 2, none⟩ (.slice a9 E.d.length c9)).alloc (.cells #[.int .i64 E.i, .int .i64 E.t, .slice a9 E.d.length c9] 54)).frozen? ⟨w1.heap.size, k * 3 + 2, none⟩ = false := by obtain ⟨cur, hc, -⟩ := hmA.row; simp [World.frozen?, hc]
        have hgB : w1.heap.size < ((((wr.setCell ⟨w1.heap.size, k * 3, none⟩ (.int .i64 E.i)).setCell ⟨w1.heap.size, k * 3 + 1, none⟩ (.int .i64 E.t)).setCell ⟨w1.heap.size, k * 3 + 2, none⟩ (.slice a9 E.d.length c9)).alloc (.cells #[.int .i64 E.i, .int .i64 E.t, .slice a9 E.d.length c9] 54)).heap.size := by rw [hsA]; omega
        have harm : ∀ v' w4, w4.ownsRow (wr.heap.size + 1) 5 1 v' E.d.length (u8s E.d) → (((((wr.setCell ⟨w1.heap.size, k * 3, none⟩ (.int .i64 E.i)).setCell ⟨w1.heap.size, k * 3 + 1, none⟩ (.int .i64 E.t)).setCell ⟨w1.heap.size, k * 3 + 2, none⟩ (.slice a9 E.d.length c9)).alloc (.cells #[.int .i64 E.i, .int .i64 E.t, .slice a9 E.d.length c9] 54)).alloc (.cells #[] 5)).grownBy w4 (some (wr.heap.size + 1)) → ∃ a4 c4, v' = .slice a4 E.d.length c4 ∧ Ext w1 w4 ∧ (∃ u, w4.cell? ⟨w1.heap.size, k * 3 + 2, none⟩ = some u) ∧ w4.frozen? ⟨w1.heap.size, k * 3 + 2, none⟩ = false ∧ w1.heap.size < w4.heap.size ∧
            MixAt (fun q => q < w1.heap.size) (w4.setCell ⟨w1.heap.size, k * 3 + 2, none⟩ (.slice a4 E.d.length c4)) w1.heap.size n 54 (l.take (k + 1)) (k + 1) := by
          intro v' w4 hown4 hg4
          obtain ⟨a4, c4, rfl, hy4, hs4⟩ := own_bytes hown4 hm40
          have hA4 : Ext ((((wr.setCell ⟨w1.heap.size, k * 3, none⟩ (.int .i64 E.i)).setCell ⟨w1.heap.size, k * 3 + 1, none⟩ (.int .i64 E.t)).setCell ⟨w1.heap.size, k * 3 + 2, none⟩ (.slice a9 E.d.length c9)).alloc (.cells #[.int .i64 E.i, .int .i64 E.t, .slice a9 E.d.length c9] 54)) w4 := (ext_alloc _ _).grown hg4 (by rw [hsA, hsB]; omega) (fun q hq => by cases hq; rw [hsA]; omega)
          have hsz := hA4.size
          rw [hsA] at hsz
          exact ⟨a4, c4, rfl, Ext.trans' hbA hA4, ⟨_, (hA4.cell (p := ⟨w1.heap.size, k * 3 + 2, none⟩) hgB).trans hzA⟩, (hA4.frozen (p := ⟨w1.heap.size, k * 3 + 2, none⟩) hgB).trans hfA, by omega, hmA.step2 hkl HE.out (fun b hb => hb) hA4 (hy4.more fun q hq => by rw [hsA]; exact hq) hs4⟩
        have HARM := hid harm
        clear harm hzA hfA hgB
        have HDB := hid hdB
        have HRB := hid hrB
        have HSB := hid hsB
        have hx0 := (0 : Nat)
        clear hx0 z0 z1 z2 z3 z4 z5 hmA hdB hrB hsA hsB hbA
        go_wp2_with (at_builtin; refine wpList_append_row rfl (.tmp 41) (.tmp 43) _ rfl (wr.heap.size + 1) 5 (.int .u8 0) 1 1 Try.underlying52 info_u8 rfl (by decide) (.slice (some ⟨wr.heap.size + 1, 0, none⟩) 0 0) 0 [] rfl HRB.out a9 E.d.length c9 (u8s E.d) rfl HDB.out.2.2.2.1 HDB.out.raw (u8s_mem E.d) (by unfold maxLen; omega) (by omega) (by rw [HSB.out]; omega) ?_; intro v' w4 hown4 hg4; rw [Nat.zero_add, List.nil_append] at hown4; obtain ⟨a4, c4, rfl, hx4, ⟨u4, g4⟩, f4, s4, hst⟩ := HARM.out _ _ hown4 hg4; have HST4 := hid hst; have HB4 := hid hx4; clear hown4 hg4 hst hx4)
        go_roundw
        case rel => exact ⟨k + 1, by omega, by go_num, HB4.out.setCell (Nat.le_refl _) _, HST4.out⟩
        case measure => simp [intOf]; omega
      · rename World => wv
        have hkn : k = n := by omega
        have hm' : MixAt (fun q => q < w1.heap.size) wv w1.heap.size n 54 l l.length := by
          rw [hkn] at hm
          have h := HNN.out
          rw [h, List.take_length] at hm
          rw [h]; exact hm
        have hown : OwnE 54 w1.heap.size wv (.slice (some ⟨w1.heap.size, 0, none⟩) l.length n) l := .inr ⟨w1.heap.size, n, rfl, Nat.le_refl _, hm'.own⟩
        obtain ⟨a8, c8, hv, he8⟩ := hown.es
        injection hv with q1 q2 q3
        subst q1; subst q3
        obtain ⟨hd, -, hz⟩ := LooseAt.any hown
        have hz := (hz _ rfl).2.2
        dsimp only at hz
        rw [← HNN.out] at he8 hz
        have hup : ∀ k, k < n → ∀ p, (hd k).1 = some p → 0 < (hd k).2.1 → p.block < wv.heap.size := by
          intro k hk p hp hpos
          obtain ⟨-, -, -, h7⟩ := (hz.data k hk).2.2.2 p hp hpos
          obtain ⟨u, hu⟩ := h7 0 hpos
          exact World.block_lt_of_cell? wv ⟨p.block, p.off + 0, none⟩ hu
        have HE8 := hid he8
        have HZ := hid hz
        have HUP := hid hup
        have hgw : w1.heap.size < wv.heap.size := by
          obtain ⟨cur, hc, -⟩ := hm'.row
          exact (Array.getElem?_eq_some_iff.1 hc).1
        have d0 := (hb.cell (p := ⟨w.heap.size, 0, none⟩) e3).trans e0
        have d1 := (hb.cell (p := ⟨w.heap.size, 1, none⟩) e3).trans e1
        have d2 := (hb.cell (p := ⟨w.heap.size, 2, none⟩) e3).trans e2
        have hxr := Ext.trans' hx1 hb
        have HC1 := hid c1
        clear hm hm' hown he8 hz hup e0 e1 e2 c0 c1
        have hd3 : w.heap.size < wv.heap.size := by omega
        go_wp2_with fail
        by_cases hok : LS.Ok ⟨i, t, l⟩
        · refine (New_ok i t _ n n l _ HI.out HT.out (by exact HE8.out) hok).mono ?_
          rintro e w5 ⟨b, rfl, hled, hbw, hb5⟩
          have f0 := (hb5.cell (p := ⟨w.heap.size, 0, none⟩) hd3).trans d0
          have f1 := (hb5.cell (p := ⟨w.heap.size, 1, none⟩) hd3).trans d1
          have f2 := (hb5.cell (p := ⟨w.heap.size, 2, none⟩) hd3).trans d2
          have f3 : w.heap.size < w5.heap.size := by have := hb5.size; omega
          have hx5 := Ext.trans' hxr hb5
          have HLED := hid hled
          have HOK := hid hok
          clear hled d0 d1 d2 hok
          go_wp2_with fail
          refine (RNew_ok i t a n c l _ HI.out HT.out (by exact HL.out.lt.below hx5) HOK.out).mono ?_
          rintro e w6 ⟨b', rfl, href, hbw', hb6⟩
          have hx6 := Ext.trans' hx5 hb6
          have HREF := hid href
          have HL6 := hid (HLED.out.below hb6)
          have hr6 := Ext.trans' hb5 hb6
          have HZ6 := hid (HZ.out.below hgw hr6)
          clear href f0 f1 f2 HZ
          have hgw6 : w1.heap.size < w6.heap.size := by have := hr6.size; omega
          have hsz6 := hb6.size
          have hsz5 := hb5.size
          have HR6 := hid hr6
          have HB := hid hb
          have HX6 := hid hx6
          clear hr6 hb hb5 hb6 hx5 hxr
          go_wp2_with fail
          go_loopw [82] (fun z wx => ∃ k : Nat, k ≤ n ∧ z = .int .i64 k ∧ OnlyIn w6 wx w1.heap.size wv.heap.size ∧ LooseAt w1.heap.size wx w1.heap.size n hd) (fun z _ => n - (intOf z).toNat)
          case atStart => exact ⟨0, Nat.zero_le _, rfl, OnlyIn.refl _ _ _, HZ6.out⟩
          case round =>
            rename World => wx
            clear HZ6
            obtain ⟨k, hk, rfl, hon, hL⟩ := hrel
            by_cases hlt : k < n
            · obtain ⟨-, -, hc2⟩ := hL.nums k hlt
              obtain ⟨hd1, hd2, hd3, hd4⟩ := hL.data k hlt
              have hup := HUP.out k hlt
              have HLL := hid hL
              have hso := hon.size
              clear hL
              obtain ⟨ad, nd, cd, he⟩ : ∃ a n c, hd k = (a, n, c) := ⟨_, _, _, rfl⟩
              rw [he] at hc2 hd1 hd2 hd3 hd4 hup
              dsimp only at hc2 hd1 hd2 hd3 hd4 hup
              have HE := hid he
              have HD3 := hid hd3
              have HU2 := hid hup
              have hgx : w1.heap.size < wx.heap.size := by omega
              clear he hd4 hd3 hup
              go_wp2
              go_loopw [91] (fun z wi => ∃ j : Nat, j ≤ nd ∧ z = .int .i64 j ∧ OnlyIn w6 wi w1.heap.size wv.heap.size ∧ LooseAt w1.heap.size wi w1.heap.size n hd) (fun z _ => nd - (intOf z).toNat)
              case atStart => exact ⟨0, Nat.zero_le _, rfl, hon, HLL.out⟩
              case round =>
                rename World => wi
                clear hc2 hon HLL
                obtain ⟨j, hj, rfl, hoi, hLi⟩ := hrel
                obtain ⟨⟨x1, hc1⟩, -, hc2⟩ := hLi.nums k hlt
                have hd4 := (hLi.data k hlt).2.2.2
                have hf1 := hLi.soft (k * 3)
                have hsi := hoi.size
                have hgi : w1.heap.size < wi.heap.size := by omega
                rw [HE.out] at hc2 hd4
                dsimp only at hc2 hd4
                have HLL := hid hLi
                clear hLi
                by_cases hjl : j < nd
                · cases ad with
                  | none => exact absurd (HD3.out rfl) (by omega)
                  | some q =>
                    obtain ⟨h5, h6, h7, h8⟩ := hd4 q rfl (by omega)
                    have hqu := HU2.out q rfl (by omega)
                    obtain ⟨qb, qo, qs⟩ := q
                    dsimp only at h5 h6 h7 h8 hqu
                    subst h5
                    obtain ⟨u, hu⟩ := h8 j hjl
                    have hfu := h7 (qo + j)
                    clear hd4 h8 h7 hf1 hc1
                    obtain ⟨u', hu'⟩ := xor_byte (u.toNat : Int) 255
                    have HU := hid hu'
                    clear hu'
                    go_wp2
                    rw [HU.out]
                    go_roundw
                    case rel => exact ⟨j + 1, by omega, by go_num, hoi.setCell (by show w1.heap.size ≤ qb; omega) hqu _, HLL.out.setByte h6 _⟩
                    case measure => simp [intOf]; omega
                · clear hd4
                  go_wp2
                  go_roundw
                  case rel => exact ⟨k + 1, by omega, by go_num, hoi.setCell (Nat.le_refl _) hgw _, HLL.out.setNum 0 (by omega) _⟩
                  case measure => simp [intOf]; omega
            · have hso := hon.size
              have hbl := HL6.out.lt
              have hbl' := HREF.out.lt
              have HLX : LedAt (fun k => wv.heap.size ≤ k ∧ k ≠ b) wx b ⟨i, t, l⟩ := HL6.out.keep (hon.block b hbl (by omega)) (fun q hq hs => ⟨hq, hon.block q hs (by omega)⟩) HL6.out.far
              have HRX := HREF.out.keep (w' := wx) (hon.block b' hbl' (by omega)) (fun q hq hs => ⟨hq, hon.block q hs (by have := hx1.size; rcases hq with ⟨hq, -⟩ | hq; (have := hq.2; omega); omega)⟩) HREF.out.far
              have hxx := hon.ext HX6.out hx1.size
              have k0 := (hon.block (w.heap.size + 1) (by omega) (by omega)).trans (((Ext.trans' HB.out HR6.out).block (w.heap.size + 1) c2).trans HC1.out)
              have hkx : w.heap.size + 1 < wx.heap.size := by omega
              have m3 : wx.cell? ⟨w.heap.size + 1, 3, none⟩ = some (.slice a' n' c') := by simp [World.cell?, k0]
              have HLX := hid HLX
              have HRX := hid HRX
              have HK0 := hid k0
              clear k0
              go_wp2_with fail
              refine (Clone_at HLX.out).mono ?_
              rintro e w7 ⟨g, rfl, hc7, hg7, hb7⟩
              have m7 := (hb7.cell (p := ⟨w.heap.size + 1, 3, none⟩) hkx).trans m3
              have HC7 := hid (hc7.keep (G := fun k => k ≠ g) rfl (fun q hq _ => ⟨hq.2, rfl⟩) (fun h => h rfl))
              have hk7 : w.heap.size + 1 < w7.heap.size := by have := hb7.size; omega
              have HB7 := hid hb7
              have HGG := hid hg7
              have hgl := hc7.lt
              clear hc7 m3 hb7 hg7
              have hkL := HK.out.below (Ext.trans' hxx HB7.out)
              have hadd := AddW HC7.out (fun q hq => by omega) HOK.out hkL (by dsimp only; omega)
              have hok8 := HOK.out.addS l'
              have hl8 := LS.addS_len ⟨i, t, l⟩ l'
              dsimp only at hl8
              generalize LS.addS ⟨i, t, l⟩ l' = r8 at *
              obtain ⟨z8, s8⟩ := r8
              have HADD := hid hadd
              have HOK8 := hid hok8
              clear hkL hadd hok8
              go_wp2_with fail
              refine Calls.mono HADD.out ?_
              rintro e w8 ⟨rfl, hc8, hg8⟩
              have hb8 : Ext wx w8 := HB7.out.grown hg8 HB7.out.size (fun q hq => by cases hq; exact HGG.out)
              have m8 : w8.cell? ⟨w.heap.size + 1, 1, none⟩ = some (.int .i64 x) := by have := (hb8.block _ hkx).trans HK0.out; simp [World.cell?, this]
              have HC8 := hid hc8
              have hcut := CutW hc8 (fun q hq => by have := hc8.lt; omega) HOK8.out x
              have hok9 := HOK8.out.cutS x
              dsimp only at hcut hok9
              generalize LS.cutS s8 x = r9 at *
              obtain ⟨z9, s9⟩ := r9
              have HCUT := hid hcut
              have HOK9 := hid hok9
              have hk8 : w.heap.size + 1 < w8.heap.size := by have := hb8.size; omega
              have HB8 := hid hb8
              clear hc8 hg8 hcut hok9 m7 hb8
              go_wp2_with fail
              refine Calls.mono HCUT.out ?_
              rintro e w9 ⟨rfl, hc9, hg9⟩
              have hb9 : Ext wx w9 := HB8.out.grown hg9 HB8.out.size (fun q hq => by cases hq; exact HGG.out)
              have m9 : w9.cell? ⟨w.heap.size + 1, 1, none⟩ = some (.int .i64 x) := by have := (hb9.block _ hkx).trans HK0.out; simp [World.cell?, this]
              have n9 : w9.cell? ⟨w.heap.size + 1, 2, none⟩ = some (.int .i64 y) := by have := (hb9.block _ hkx).trans HK0.out; simp [World.cell?, this]
              have hreb := RebaseW hc9 (fun q hq => by have := hc9.lt; omega) HOK9.out x y HX.out
              generalize LS.rebS s9 x y = r10 at *
              obtain ⟨z10, s10⟩ := r10
              have HREB := hid hreb
              have hk9 : w.heap.size + 1 < w9.heap.size := by have := hb9.size; omega
              have HB9 := hid hb9
              clear hc9 hg9 hreb m8 hb9
              go_wp2_with fail
              refine Calls.mono HREB.out ?_
              rintro e w10 ⟨rfl, -, hg10⟩
              have hb10 : Ext wx w10 := HB9.out.grown hg10 HB9.out.size (fun q hq => by cases hq; exact HGG.out)
              have HB10 := hid hb10
              clear hg10 m9 n9 hb10
              go_wp2_with fail
              refine (tells_at (HLX.out.below HB10.out) (HRX.out.below HB10.out) HOK.out (by dsimp only; omega)).mono ?_
              rintro e w11 ⟨rfl, hb11⟩
              go_wp2_with fail
              refine (awake_any _).mono ?_
              rintro e w12 ⟨rfl, hb12⟩
              go_wp2
              go_ret
              exact ⟨rfl, Ext.trans' hxx (Ext.trans' HB10.out (Ext.trans' hb11 hb12))⟩
        · refine (New_bad i t _ n n l _ HI.out (by exact HE8.out) hok).mono ?_
          rintro e w5 ⟨rfl, hb5⟩
          have f0 := (hb5.cell (p := ⟨w.heap.size, 0, none⟩) hd3).trans d0
          have f1 := (hb5.cell (p := ⟨w.heap.size, 1, none⟩) hd3).trans d1
          have f2 := (hb5.cell (p := ⟨w.heap.size, 2, none⟩) hd3).trans d2
          have f3 : w.heap.size < w5.heap.size := by have := hb5.size; omega
          have hx5 := Ext.trans' hxr hb5
          have HOK := hid hok
          clear d0 d1 d2 hok
          go_wp2_with fail
          refine (RNew_bad i t a n c l _ HI.out (by exact HL.out.below hx5) HOK.out).mono ?_
          rintro e w6 ⟨rfl, hb6⟩
          go_wp2_with fail
          refine (awake_any _).mono ?_
          rintro e w7 ⟨rfl, hb7⟩
          go_wp2
          go_ret
          exact ⟨rfl, Ext.trans' hx5 (Ext.trans' hb6 hb7)⟩
end Go.Proofs.Ytjcmgkdlkadfmaa
