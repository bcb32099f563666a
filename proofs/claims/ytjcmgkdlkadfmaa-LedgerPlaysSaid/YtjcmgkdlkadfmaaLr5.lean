/- The walks of the reference's Add and Cut. -/
import Derived.Test.YtjcmgkdlkadfmaaLr4
namespace Go.Proofs.Ytjcmgkdlkadfmaa
open Go.RowKit
set_option linter.unusedVariables false
set_option linter.unusedSimpArgs false
attribute [local go_sem] bmax2 bmin2 bmax_two bmin_two

theorem RefAt.setList {F G : Nat → Prop} {w w' : World} {b : Nat} {s : LS} (h : RefAt F w b s) (hb : w'.heap[b]? = w.heap[b]?) {l : List Ent} {a : Option Addr} {c : Nat} (hl : EsF G w' a l.length c l) (hg : ¬ G b) :
    RefAt G (w'.setCell ⟨b, 2, none⟩ (.slice a l.length c)) b ⟨s.i, s.t, l⟩ := by
  obtain ⟨a0, c0, h1, -⟩ := h.obj
  refine ⟨⟨a, c, ?_, ?_⟩, hg, h.i64, h.t64⟩
  · exact heap_setCell_same w' b 2 _ _ _ (hb.trans h1)
  · exact hl.keep fun k hk _ => ⟨hk, heap_setCell_other w' _ k _ (by rintro rfl; exact hg hk)⟩

theorem grown_ext {w w1 w2 : World} {r : Option Nat} (h : w.grownBy w1 r) (h2 : Ext w1 w2) : w.grownBy w2 r :=
  ⟨h2.os.trans h.os, h2.tape.trans h.tape, h2.output.trans h.output, Nat.le_trans h.size h2.size, fun k hk hne => (h2.block k (Nat.lt_of_lt_of_le hk h.size)).trans (h.block k hk hne)⟩
theorem HdF.of_es {F : Nat → Prop} {w : World} {a : Option Addr} {n c : Nat} {l : List Ent} (h : EsF F w a n c l) : ∃ H, HdF F w H l ∧ RowAt w a n 3 (rawH H) := by
  obtain ⟨H, h1, h2, h3⟩ := h.raw
  exact ⟨H, ⟨h1, h3, h.in64⟩, h2⟩
theorem HdF.append {F G : Nat → Prop} {w : World} {H K : List EH} {l m : List Ent} (h : HdF F w H l) (h' : HdF G w K m) : HdF (fun b => F b ∨ G b) w (H ++ K) (l ++ m) := by
  obtain ⟨h1, h2, h3⟩ := h
  obtain ⟨k1, k2, k3⟩ := h'
  refine ⟨by simp [h1, k1], fun k q1 q2 => ?_, fun k hk => ?_⟩
  · by_cases hk : k < l.length
    · have hk1 : k < H.length := by omega
      rw [List.getElem_append_left hk1, List.getElem_append_left hk]
      obtain ⟨e1, e2, e3⟩ := h2 k hk1 hk
      exact ⟨e1, e2, e3.more fun _ h => .inl h⟩
    · have hkk : k - l.length < m.length := by simp at q2; omega
      rw [List.getElem_append_right (by omega), List.getElem_append_right (by omega)]
      have he : k - H.length = k - l.length := by omega
      simp only [he]
      obtain ⟨e1, e2, e3⟩ := k2 (k - l.length) (by omega) hkk
      exact ⟨e1, e2, e3.more fun _ h => .inr h⟩
  · by_cases hkl : k < l.length
    · rw [List.getElem_append_left hkl]; exact h3 k hkl
    · rw [List.getElem_append_right (by omega)]; exact k3 _ (by simp at hk; omega)
theorem HdF.below {F : Nat → Prop} {w w' : World} {H : List EH} {l : List Ent} (h : HdF F w H l) (hb : Ext w w') : HdF F w' H l :=
  ⟨h.1, fun k h1 h2 => by obtain ⟨e1, e2, e3⟩ := h.2.1 k h1 h2; exact ⟨e1, e2, e3.below hb⟩, h.2.2⟩
theorem HdF.es {F : Nat → Prop} {w : World} {H : List EH} {l : List Ent} (h : HdF F w H l) {B : Nat} {ent : TypeId} {v : Value} {n : Nat} (hn : n = l.length) (h40 : l.length * 40 ≤ 140737488351232) (hown : w.ownsRow B ent 3 v n (rawH H)) :
    ∃ a c, v = .slice a l.length c ∧ EsF (fun k => F k ∨ B ≤ k) w a l.length c l := EsF.of_own h.1 hn h40 hown h.2.1 h.2.2

set_option maxRecDepth 100000 in
set_option maxHeartbeats 2000000 in
theorem RAdd_ok {F G : Nat → Prop} {w : World} {b : Nat} {s : LS} (h : RefAt F w b s) (hF : ∀ k, w.heap.size ≤ k → F k) (hG : ∀ k, G k → k < w.heap.size → F k) {a : Option Addr} {n c : Nat} {more : List Ent} (hm : EsF G w a n c more)
    (hr : risesS s.lastI s.lastT more = true) (hok : s.Ok) (hsz : (s.l.length + more.length) * 40 ≤ 140737488351232) :
    Calls Try.prog 38 #[.pointer (some ⟨b, 0, none⟩), .slice a n c] w fun e w' => e = .returned (.int .i64 0) ∧
      RefAt F w' b ⟨s.i, s.t, s.l ++ more⟩ ∧ w.grownBy w' (some b) := by
  obtain ⟨al, cl, h0, h1, h2, hfz, hl, hbl⟩ := h.cells
  have hlast := hok.lastI_eq
  have hle := hok.last_le
  have hcall := RLast_at h
  have hrr : rrisesS s.lastI s.lastT more = true := by unfold rrisesS; rw [if_pos (by omega)]; exact hr
  have hrc : ∀ W, EsF G W a n c more → Calls Try.prog 48 #[.int .i64 s.lastI, .int .i64 s.lastT, .slice a n c] W fun e w' => e = .returned (.bool true) ∧ Ext W w' := by
    intro W hW
    have := RRises_any G s.lastI s.lastT a n c more W ⟨by have := hok.bounds; omega, by omega⟩ hW
    rw [hrr] at this
    exact this
  generalize s.lastI = z at *
  generalize s.lastT = y at *
  obtain ⟨H, hH, hrow⟩ := HdF.of_es hl.lt
  obtain ⟨K, hK, hrowK⟩ := HdF.of_es hm.lt
  have hfz2 := hfz 2
  have HC := hid hcall
  have HR := hid hrc
  have HM := hid hm
  have HO := hid h
  have HF := hid hF
  have HG := hid hG
  have hl40 := hl.2.2.1.2
  have hla := hl.2.2.2.1
  have hma := hm.2.2.2.1
  obtain rfl : n = more.length := hm.1
  have HLA := hid hla
  have HMA := hid hma
  have HH := hid hH
  have HK := hid hK
  have HW := hid hrow
  have HX := hid hrowK
  have hHl : H.length = s.l.length := hH.1
  have hKl : K.length = more.length := hK.1
  have HHl := hid hHl
  have HKl := hid hKl
  clear hcall hrc hm hr hrr hlast hle hok hl hfz h hF hG hla hma hH hK hrow hrowK hHl hKl h0 h1
  go_enter Try.func38, Try.ntmps38
  go_wp2_with fail
  refine Calls.mono HC.out ?_
  rintro e w1 ⟨rfl, hb1⟩
  go_wp2_with fail
  refine Calls.mono (HR.out _ (HM.out.below hb1)) ?_
  rintro e w2 ⟨rfl, hb2⟩
  have hx2 := Ext.trans' hb1 hb2
  have h2' := (hx2.cell (p := ⟨b, 2, none⟩) hbl).trans h2
  have hs2 := hx2.size
  have hbl2 : b < w2.heap.size := by omega
  go_wp2_with (first | (at_builtin; refine wpList_append_row rfl (.tmp 18) (.tmp 22) _ rfl w2.heap.size 54 (.agg #[.int .i64 0, .int .i64 0, .slice none 0 0]) 3 40 Try.underlying22 info_ent rfl (by decide) (.slice (some ⟨w2.heap.size, 0, none⟩) 0 0) 0 [] rfl (World.ownsRow_made w2 #[] 0 (Nat.le_refl _) (Nat.zero_le _) rfl) al s.l.length cl (rawH H) rfl HLA.out (HW.out.ext (Ext.trans' hx2 (ext_alloc _ _))) (rawH_mem H) (by unfold maxLen; omega) (by omega) (by simp) ?_; intro v3 w3 hown3 hg3; simp only [Nat.zero_add, List.nil_append] at hown3; have hx3 : Ext w2 w3 := (ext_alloc w2 _).grown hg3 (by simp) (by simp [Value.ownBlock]); obtain ⟨a3, c3, rfl⟩ := own_slice hown3; have HO3 := hid hown3; clear hown3 hg3; have hs3 := hx3.size) | (at_builtin; refine wpList_append_row rfl (.tmp 23) (.tmp 24) _ rfl w2.heap.size 54 (.agg #[.int .i64 0, .int .i64 0, .slice none 0 0]) 3 40 Try.underlying22 info_ent rfl (by decide) (.slice a3 s.l.length c3) s.l.length (rawH H) rfl HO3.out a more.length c (rawH K) rfl HMA.out (HX.out.ext (Ext.trans' hx2 hx3)) (rawH_mem K) (by unfold maxLen; omega) (by omega) (by omega) ?_; intro v4 w4 hown4 hg4; obtain ⟨a4, c4, rfl⟩ := own_slice hown4; have hx4 : Ext w2 w4 := hx3.grown hg4 (by omega) (fun q hq => by have := HO3.out.lt q hq; omega); have HO4 := hid hown4; clear hown4 hg4; have h24 := (hx4.cell (p := ⟨b, 2, none⟩) hbl2).trans h2'; have hf4 := ((Ext.trans' hx2 hx4).frozen (p := ⟨b, 2, none⟩) hbl).trans hfz2; have hs4 := hx4.size; have hbl4 : b < w4.heap.size := by omega))
  go_ret
  have hx := Ext.trans' hx2 hx4
  have hd := (HH.out.below hx).append (HK.out.below hx)
  obtain ⟨a5, c5, hv, he5⟩ := hd.es (n := s.l.length + more.length) (by simp) (by rw [List.length_append]; omega) (by simpa [rawH_append] using HO4.out)
  injection hv with e1 e2 e3
  subst e1; subst e3
  refine ⟨rfl, ?_, grown_set hx _⟩
  rw [← List.length_append]
  refine RefAt.setList HO.out (hx.block b hbl) (he5.more fun q hq => ?_) HO.out.far
  rcases hq with (hq | hq) | hq
  · exact hq.1
  · exact HG.out q hq.1 hq.2
  · exact HF.out q (by omega)

set_option maxHeartbeats 1000000 in
theorem RAdd_bad {F G : Nat → Prop} {w : World} {b : Nat} {s : LS} (h : RefAt F w b s) {a : Option Addr} {n c : Nat} {more : List Ent} (hm : EsF G w a n c more)
    (hr : risesS s.lastI s.lastT more = false) (hok : s.Ok) :
    Calls Try.prog 38 #[.pointer (some ⟨b, 0, none⟩), .slice a n c] w fun e w' => e = .returned (.int .i64 110) ∧ Ext w w' := by
  have hlast := hok.lastI_eq
  have hle := hok.last_le
  have hB := hok.bounds
  have hcall := RLast_at h
  have hrr : rrisesS s.lastI s.lastT more = false := by unfold rrisesS; rw [if_pos (by omega)]; exact hr
  have hrc : ∀ W, EsF G W a n c more → Calls Try.prog 48 #[.int .i64 s.lastI, .int .i64 s.lastT, .slice a n c] W fun e w' => e = .returned (.bool false) ∧ Ext W w' := by
    intro W hW
    have := RRises_any G s.lastI s.lastT a n c more W ⟨by omega, by omega⟩ hW
    rw [hrr] at this
    exact this
  generalize s.lastI = z at *
  generalize s.lastT = y at *
  have HC := hid hcall
  have HR := hid hrc
  have HM := hid hm
  clear hcall hrc hm hr hrr hlast hle hok h
  go_enter Try.func38, Try.ntmps38
  go_wp2_with fail
  refine Calls.mono HC.out ?_
  rintro e w1 ⟨rfl, hb1⟩
  go_wp2_with fail
  refine Calls.mono (HR.out _ (HM.out.below hb1)) ?_
  rintro e w2 ⟨rfl, hb2⟩
  go_wp2
  go_ret
  exact ⟨rfl, Ext.trans' hb1 hb2⟩

set_option maxHeartbeats 1000000 in
theorem RCut_ok {F : Nat → Prop} {w : World} {b : Nat} {s : LS} (h : RefAt F w b s) (hok : s.Ok) (x : Int) (hx : s.i < x ∧ x ≤ s.lastI) :
    Calls Try.prog 36 #[.pointer (some ⟨b, 0, none⟩), .int .i64 x] w fun e w' => e = .returned (.int .i64 0) ∧
      RefAt F w' b ⟨s.i, s.t, s.l.take (x - s.i - 1).toNat⟩ ∧ w.grownBy w' (some b) := by
  obtain ⟨hx1, hx2⟩ := hx
  obtain ⟨a, c, h0, h1, h2, hfz, hl, hbl⟩ := h.cells
  have hlast := hok.lastI_eq
  rw [hlast] at hx2
  obtain ⟨j, hj⟩ : ∃ j : Nat, x - s.i - 1 = j := ⟨(x - s.i - 1).toNat, by omega⟩
  have hjn : (x - s.i - 1).toNat = j := by omega
  rw [hjn]
  have hjl : j < s.l.length := by omega
  have h40 := hl.2.2.1.2
  have hcc : s.l.length ≤ c := hl.2.1
  have hfz2 := hfz 2
  have HL := hid hl
  have HO := hid hok
  have HR := hid h
  obtain rfl : x = s.i + 1 + j := by omega
  clear hl hfz h hok hx1 hx2 hj hjn hlast h0 h1
  go_enter Try.func36, Try.ntmps36
  go_wp2
  go_loopw [12] (fun z wr => ∃ k : Nat, k ≤ j ∧ z = .int .i64 k ∧ Ext w wr) (fun z _ => s.l.length - (intOf z).toNat)
  case atStart => exact ⟨0, Nat.zero_le _, rfl, Below.refl _ _⟩
  case round =>
    obtain ⟨k, hk, rfl, hb⟩ := hrel
    have hlt : k < s.l.length := by omega
    obtain ⟨p, o, rfl, -, hpl, hkl, -, -, hc0, hc1, a', n', c', hc2, -⟩ := (HL.out.below hb).at_ hlt
    have hi := (HO.out.at_ hkl).1
    generalize s.l[k].i = Ei at *
    generalize s.l[k].t = Et at *
    have h2r := (hb.cell (p := ⟨b, 2, none⟩) hbl).trans h2
    have hfr := (hb.frozen (p := ⟨b, 2, none⟩) hbl).trans hfz2
    have hsr := hb.size
    have hbr : b < wr.heap.size := by omega
    by_cases he : k = j
    · subst he
      subst hi
      have hk0 : (0 : Int) ≤ (k : Int) := by omega
      have hkc : (k : Int) ≤ (c : Int) := by omega
      go_wp2
      go_ret
      have hx := hb
      refine ⟨rfl, ?_, grown_ext (grown_set hx _) (ext_alloc _ _)⟩
      have hcut := HL.out.front (q := k) (by omega)
      have hlen : (s.l.take k).length = k := by simp; omega
      have hs := RefAt.setList (l := s.l.take k) (a := some ⟨p, o, none⟩) (c := c) HR.out (hx.block b hbl) (by rw [hlen]; exact hcut.below hx) HR.out.far
      rw [hlen] at hs
      exact hs.below (ext_alloc _ _)
    · have hxeb : (Ei == s.i + 1 + (j : Int)) = false := by simp; omega
      go_wp2
      go_roundw
      case rel => exact ⟨k + 1, by omega, by go_num, hb.alloc (by have := hb.size; omega) _⟩
      case measure => simp [intOf]; omega

set_option maxHeartbeats 1000000 in
theorem RCut_bad {F : Nat → Prop} {w : World} {b : Nat} {s : LS} (h : RefAt F w b s) (hok : s.Ok) (x : Int) (hx : x ≤ s.i ∨ s.lastI < x) :
    Calls Try.prog 36 #[.pointer (some ⟨b, 0, none⟩), .int .i64 x] w fun e w' => e = .returned (.int .i64 51) ∧ Ext w w' := by
  obtain ⟨a, c, h0, h1, h2, hfz, hl, hbl⟩ := h.cells
  have hlast := hok.lastI_eq
  have h40 := hl.2.2.1.2
  rw [hlast] at hx
  have HL := hid hl
  have HO := hid hok
  have HX := hid hx
  clear hl hfz h hok hx hlast h0 h1
  go_enter Try.func36, Try.ntmps36
  go_wp2
  go_loopw [12] (fun z wr => ∃ k : Nat, k ≤ s.l.length ∧ z = .int .i64 k ∧ Ext w wr) (fun z _ => s.l.length - (intOf z).toNat)
  case atStart => exact ⟨0, Nat.zero_le _, rfl, Below.refl _ _⟩
  case round =>
    obtain ⟨k, hk, rfl, hb⟩ := hrel
    by_cases hlt : k < s.l.length
    · obtain ⟨p, o, rfl, -, hpl, hkl, -, -, hc0, hc1, a', n', c', hc2, -⟩ := (HL.out.below hb).at_ hlt
      have hi := (HO.out.at_ hkl).1
      generalize s.l[k].i = Ei at *
      generalize s.l[k].t = Et at *
      have hxeb : (Ei == x) = false := by have := HX.out; simp; omega
      go_wp2
      go_roundw
      case rel => exact ⟨k + 1, by omega, by go_num, hb.alloc (by have := hb.size; omega) _⟩
      case measure => simp [intOf]; omega
    · go_wp2
      go_ret
      exact ⟨rfl, hb⟩
end Go.Proofs.Ytjcmgkdlkadfmaa
