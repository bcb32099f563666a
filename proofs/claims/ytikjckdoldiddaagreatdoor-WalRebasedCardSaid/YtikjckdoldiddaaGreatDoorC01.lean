/- The walks of slices.Clone at bytes, of copied and of total; append to bytes of the call's own. -/
import Derived.Test.YtikjckdoldiddaaGreatDoorC00
import Derived.Maps.OwnOps
import Derived.Laws.IdiomStrings
import Derived.Lib.ConvBytes
import Derived.Laws.EntriesVeiled
namespace Go.Proofs.YtikjckdoldiddaaGreatDoor
open Go.RowKit Go.Maps
set_option linter.unusedVariables false
set_option linter.unusedSimpArgs false

theorem info_u8 : (Tryz.prog.info? 5).map (fun i => (i.zero, i.size, i.bytes)) = some (some (.int .u8 0), 1, 1) := by kernel_rfl

/-- Bytes of the call's own that are not nil. -/
def OwnB (B : Nat) (w : World) (v : Value) (n : Nat) (d : By) : Prop := n = d.length ∧ ∃ g c, v = .slice (some ⟨g, 0, none⟩) n c ∧ w.ownsRow B 5 1 v n (u8s d)
theorem OwnB.form {B : Nat} {w : World} {v : Value} {n : Nat} {d : By} (h : OwnB B w v n d) : ∃ g c, v = .slice (some ⟨g, 0, none⟩) n c := by
  obtain ⟨-, g, c, h, -⟩ := h; exact ⟨g, c, h⟩
theorem OwnB.by_ {B : Nat} {w : World} {a : Option Addr} {n c m : Nat} {d : By} (h : OwnB B w (.slice a n c) m d) (hd : m ≤ 140737488351232) : ByF (fun q => B ≤ q ∧ q < w.heap.size) w a n c d := by
  obtain ⟨hn, g, c', hv, hr⟩ := h
  injection hv with e1 e2 e3
  subst e1; subst e2; subst e3; subst hn
  obtain ⟨a, c2, hv, hb, hp⟩ := own_bytes hr hd
  injection hv with e1 e2 e3
  subst e1; subst e3
  exact hb.keep fun q hq hl => ⟨⟨hq, hl⟩, rfl⟩
theorem OwnB.slv {B : Nat} {w : World} {v : Value} {n : Nat} {d : By} (h : OwnB B w v n d) (hd : n ≤ 140737488351232) : SlV (fun q => B ≤ q ∧ q < w.heap.size) w v d := by
  obtain ⟨g, c, rfl⟩ := h.form
  exact ⟨_, _, _, rfl, h.by_ hd⟩
theorem OwnB.keep {B : Nat} {w w' : World} {v : Value} {n : Nat} {d : By} (h : OwnB B w v n d) (hx : ∀ q, B ≤ q → q < w.heap.size → w'.heap[q]? = w.heap[q]?) : OwnB B w' v n d := by
  obtain ⟨hn, g, c, rfl, hr⟩ := h
  refine ⟨hn, g, c, rfl, own_keep hr fun q hq => ?_⟩
  have := hr.lt q hq
  exact hx q (by omega) (own_cells hr hq).1
theorem OwnB.ext {B : Nat} {w w' : World} {v : Value} {n : Nat} {d : By} (h : OwnB B w v n d) (hx : Ext w w') : OwnB B w' v n d := h.keep fun q _ hl => hx.block q hl
theorem OwnB.base {B B' : Nat} {w : World} {v : Value} {n : Nat} {d : By} (h : OwnB B w v n d) (hB : B' ≤ B) : OwnB B' w v n d := by
  obtain ⟨hn, g, c, rfl, hr⟩ := h
  refine ⟨hn, g, c, rfl, hr.1, ?_⟩
  rcases hr.2 with h1 | ⟨g, cap, cur, h1, h2, h3⟩
  · exact .inl h1
  exact .inr ⟨g, cap, cur, h1, by omega, h3⟩
theorem ownB_made (w : World) (B : Nat) (h : B ≤ w.heap.size) : OwnB B (w.alloc (.cells #[] 5)) (.slice (some ⟨w.heap.size, 0, none⟩) 0 0) 0 [] :=
  ⟨rfl, w.heap.size, 0, rfl, World.ownsRow_made w #[] 0 h (Nat.zero_le _) rfl⟩

/-- Bytes behind bytes of the call's own. -/
theorem wpList_appB {F : Nat → Prop} {w : World} {ops : Array Oper} {rest : List Oper} {o : Oper} {a : Act} {Q : Exit → Act → World → Prop} (hgd : o.guard = none) (s x : Operand)
    (ho : o.op = .call { callee := .builtin .append, args := #[s, x], argTypes := #[37, 37] })
    (B : Nat) (v : Value) (n : Nat) (d0 : By) (hs : a.eval s = v) (hown : OwnB B w v n d0) (A : Option Addr) (m c : Nat) (d : By) (hx : a.eval x = .slice A m c) (hd : ByF F w A m c d)
    (hlen : n + m ≤ 140737488351232) (hB : B ≤ w.heap.size)
    (h : ∀ g' c' w', OwnB B w' (.slice (some ⟨g', 0, none⟩) (n + m) c') (n + m) (d0 ++ d) → Below B w w' → wpList Tryz.prog ops Q rest (a.put o.dst (.slice (some ⟨g', 0, none⟩) (n + m) c')) w') : wpList Tryz.prog ops Q (o :: rest) a w := by
  obtain ⟨hn, g0, c0, rfl, hr⟩ := hown
  have hm := hd.1
  have hraw := hd.raw
  have hc := hd.2.2.2.1
  cases A with
  | none =>
    have h0 := hraw.2.1 rfl
    have hc0 := hc rfl
    subst h0; subst hc0
    have hd0 : d = [] := List.eq_nil_of_length_eq_zero hm.symm
    subst hd0
    obtain ⟨i, hi, hz, hz1, hz2⟩ := info_parts info_u8
    have := h g0 c0 w (by rw [List.append_nil]; exact ⟨hn, g0, c0, rfl, hr⟩) (Below.refl _ _)
    exact wpList_append_own_none hgd s x _ ho B 5 i 1 Tryz.underlying37 hi _ n _ hs hr hx this
  | some ad =>
    obtain ⟨i, hi, hz, hz1, hz2⟩ := info_parts info_u8
    refine wpList_append_own w hgd s x _ ho B 5 i (.int .u8 0) 1 1 Tryz.underlying37 hi hz hz1 hz2 rfl (by decide) _ n _ hs hr ad m c (u8s d) hx (by simp [u8s, hm]) (hraw.2.2 ad rfl) (u8s_mem d) (by unfold maxLen; omega) (by omega) hB fun v' w' h2 h3 h4 => ?_
    have hne : v' ≠ .slice none 0 0 := fun e => by have := (h4.1 e).1; cases this
    rcases h2.2 with ⟨e, -⟩ | ⟨g', cap, cur, rfl, hb, -⟩
    · exact absurd e hne
    refine h g' cap w' ⟨by simp [hn, hm], g', cap, rfl, by simpa [u8s] using h2⟩ ?_
    exact (Below.refl _ _).grown h3 hB fun q hq => (hr.lt q hq).1

set_option maxHeartbeats 400000 in
theorem cloneB_some {F : Nat → Prop} {p : Addr} {n c : Nat} {d : By} {w : World} (hd : ByF F w (some p) n c d) :
    Calls Tryz.prog 65 #[.slice (some p) n c] w fun e w' => ∃ v, e = .returned v ∧ OwnB w.heap.size w' v n d ∧ Ext w w' := by
  have hn : n ≤ 140737488351232 := hd.2.2.1.2
  have HR := hid (hd.below (ext_alloc w (.cells #[] 5)))
  have he := fun W => Lib.run_eql_slice_nil (P := Tryz.prog) W 37 5 (some p) n c 0 0 Tryz.underlying37
  have HO := hid (ownB_made w w.heap.size (Nat.le_refl _))
  clear hd
  go_enter Tryz.func65, Tryz.ntmps65
  go_wp2_with (at_builtin; refine wpList_appB rfl (.tmp 5) (.tmp 6) rfl w.heap.size _ 0 [] rfl HO.out (some p) n c d rfl HR.out (by omega) (by simp) ?_; intro g' c' w1 hown hg)
  go_ret
  exact ⟨_, rfl, by simpa using hown, (ext_alloc w _).trans hg⟩

set_option maxHeartbeats 400000 in
theorem cloneB_none (w : World) : Calls Tryz.prog 65 #[.slice none 0 0] w fun e w' => e = .returned (.slice none 0 0) ∧ w = w' := by
  have he := fun W => Lib.run_eql_slice_nil (P := Tryz.prog) W 37 5 none 0 0 0 0 Tryz.underlying37
  go_enter Tryz.func65, Tryz.ntmps65
  go_wp2
  go_ret
  exact ⟨rfl, rfl⟩
end Go.Proofs.YtikjckdoldiddaaGreatDoor

/- slices.Clone at bytes. -/
namespace Go.Proofs.YtikjckdoldiddaaGreatDoor
open Go.RowKit Go.Maps
set_option linter.unusedVariables false
set_option linter.unusedSimpArgs false

/-- slices.Clone at bytes that may be nil. -/
theorem cloneB_any {F : Nat → Prop} {a : Option Addr} {n c : Nat} {d : By} {w : World} (hd : ByF F w a n c d) :
    Calls Tryz.prog 65 #[.slice a n c] w (fun e w' => ∃ a' n' c', e = .returned (.slice a' n' c') ∧ ByF (fun q => w.heap.size ≤ q ∧ q < w'.heap.size) w' a' n' c' d ∧ Ext w w') := by
  cases a with
  | none =>
    have hc : c = 0 := hd.2.2.2.1 rfl
    have hn : n = 0 := by have := hd.2.1; omega
    subst hc; subst hn
    have : d = [] := List.eq_nil_of_length_eq_zero hd.1.symm
    subst this
    refine (cloneB_none w).mono ?_
    rintro e w' ⟨rfl, rfl⟩
    exact ⟨none, 0, 0, rfl, ByF.nil_ _ _, Below.refl _ _⟩
  | some p =>
    refine (cloneB_some hd).mono ?_
    rintro e w' ⟨v, rfl, ho, hx⟩
    obtain ⟨g, c', rfl⟩ := ho.form
    exact ⟨_, _, _, rfl, ho.by_ hd.2.2.1.2, hx⟩
end Go.Proofs.YtikjckdoldiddaaGreatDoor

/- slices.Clone at bytes: a row of the call's own. -/
namespace Go.Proofs.YtikjckdoldiddaaGreatDoor
open Go.RowKit Go.Maps
set_option linter.unusedVariables false
set_option linter.unusedSimpArgs false

theorem cloneB_raw {F : Nat → Prop} {a : Option Addr} {n c : Nat} {d : By} {w : World} (hd : ByF F w a n c d) :
    Calls Tryz.prog 65 #[.slice a n c] w (fun e w' => ∃ v, e = .returned v ∧ w'.ownsRow w.heap.size 5 1 v d.length (u8s d) ∧ Ext w w') := by
  cases a with
  | none =>
    have hc : c = 0 := hd.2.2.2.1 rfl
    have hn : n = 0 := by have := hd.2.1; omega
    subst hc; subst hn
    have : d = [] := List.eq_nil_of_length_eq_zero hd.1.symm
    subst this
    refine (cloneB_none w).mono ?_
    rintro e w' ⟨rfl, rfl⟩
    exact ⟨_, rfl, World.ownsRow_nil _ _ _ _, Below.refl _ _⟩
  | some p =>
    refine (cloneB_some hd).mono ?_
    rintro e w' ⟨v, rfl, ho, hx⟩
    exact ⟨v, rfl, by rw [← ho.1]; obtain ⟨h1, g, c', h2, h3⟩ := ho; exact h3, hx⟩
end Go.Proofs.YtikjckdoldiddaaGreatDoor

/- The walks of copied and of total. -/
namespace Go.Proofs.YtikjckdoldiddaaGreatDoor
open Go.RowKit Go.Maps
set_option linter.unusedVariables false
set_option linter.unusedSimpArgs false

def strV (n : Nm) : Value := .string ⟨n.toArray⟩
theorem strV_inj {x y : Nm} (h : strV x = strV y) : x = y := by simpa [strV] using h
theorem keyS_inv {key : Value} {kl : Lit} (h : keyOf Tryz.prog 9 key = some kl) : ∃ x : Nm, key = strV x ∧ kl = .string x ∧ x.length ≤ maxLen := by
  cases key <;> simp [keyOf, Tryz.underlying9, mapKey] at h
  rename_i s
  obtain ⟨h1, rfl⟩ := h
  refine ⟨s.data.toList, ?_, rfl, ?_⟩
  · unfold strV; cases s; rfl
  rw [Array.length_toList]; exact h1
theorem TabAt.rise {F : Nat → Prop} {w : World} {b : Nat} {T : Tab} (h : TabAt F w b T) : tRise T := by
  obtain ⟨H, h1, h2⟩ := h
  obtain ⟨es, h3, h4, -⟩ := h1.canon lawS
  unfold dat at h3
  injection h3 with h3
  subst h3
  have h5 : (H.map Prod.fst).Pairwise fun x y => bytesBefore x y = true := by
    rw [List.pairwise_map]
    exact (List.pairwise_map.1 h4).imp fun h => h
  rw [h2.names] at h5
  exact List.pairwise_map.1 h5
theorem dat_get {H : List (Nm × Value)} {x : Nm} {c : Value} (h : ∀ zd, (dat H).atKey (.string x) zd = .held c) : tGet H x = some c := by
  have h1 := h (.held (.bool true))
  have h2 := h (.held (.bool false))
  rw [dat_at] at h1 h2
  cases hg : tGet H x with
  | none =>
    rw [hg] at h1 h2
    simp at h1 h2
    rw [← h1] at h2
    cases h2
  | some v =>
    rw [hg] at h1
    simp at h1
    rw [h1]
theorem filter_put {T : Tab} (hT : tRise T) {x : Nm} {d : By} (hx : tGet T x = some d) (left : Lit → Bool) :
    tPut (T.filter fun p => !left (.string p.1)) x d = T.filter fun p => !(left (.string p.1) && !(Lit.string p.1).sameKey (.string x)) := by
  refine tRise.ext (tPut_rise (List.Pairwise.filter _ hT) x d) (List.Pairwise.filter _ hT) fun p => ?_
  rw [tPut_mem, List.mem_filter, List.mem_filter]
  have hs : (Lit.string p.1).sameKey (.string x) = (p.1 == x) := rfl
  rw [hs]
  constructor
  · rintro (rfl | ⟨⟨h1, h2⟩, h3⟩)
    · exact ⟨tGet_mem hx, by simp⟩
    refine ⟨h1, ?_⟩
    simp at h2
    simp [h2]
  rintro ⟨h1, h2⟩
  by_cases e : p.1 = x
  · left
    obtain ⟨a, b⟩ := p
    simp only at e
    subst e
    have := hT.get h1
    rw [hx] at this
    injection this with this
    rw [this]
  right
  refine ⟨⟨h1, ?_⟩, e⟩
  have : (p.1 == x) = false := by simpa using e
  rw [this] at h2
  simpa using h2

/-- What copied leaves. -/
def CopPost (T : Tab) (w : World) (e : Ending) (w' : World) : Prop :=
  ∃ mb, e = .returned (.map (some mb)) ∧ TabAt (fun q => w.heap.size ≤ q ∧ q < w'.heap.size ∧ q ≠ mb) w' mb T ∧ w.heap.size ≤ mb ∧ Ext w w'

set_option maxHeartbeats 1000000 in
theorem copied_any {F : Nat → Prop} {w : World} {b : Nat} {T : Tab} (h : TabAt F w b T) (hT : T.length ≤ 4096) :
    Calls Tryz.prog 100 #[.map (some b)] w (CopPost T w) := by
  have hbl := h.lt
  have HR := hid h.rise
  obtain ⟨H, hown, htf⟩ := h
  have hmm := @run_makeMap Tryz.prog
  have HT := hid htf
  have hlen := htf.len
  have hHl : H.length ≤ 4096 := by omega
  have hO := hown.alloc (.map #[] 0)
  have HO := hid hO
  clear hown htf hO hlen
  go_enter Tryz.func100, Tryz.ntmps100
  go_wp2_with (at_range; refine wpList_range_own _ rfl _ 73 rfl 9 37 lawS Tryz.underlying73 Rh b H.length (dat H) rfl HO.out ?_; intro w0 hrg0 hg0 hs0)
  go_frame
  simp only [World.size_alloc]
  have hs1 : w0.heap.size = w.heap.size + 2 := by rw [hs0]; simp
  have hbne : b ≠ w.heap.size := by omega
  have hx0 : Ext w w0 := (ext_alloc w _).grown hg0 (by simp) (by simp)
  have hr0 : (w.alloc (.map #[] 0)).heap.size = w.heap.size + 1 := by simp
  rw [hr0] at hrg0
  have hm0 : w0.ownsMap Tryz.prog 9 Rh w.heap.size 0 (dat []) := (World.ownsMap_made w Tryz.prog 9 Rh).kept hg0 (by simp)
  have HM0 := hid hm0
  have HG0 := hid hrg0
  clear hs0 hg0 hrg0 hm0 HO hmm hr0
  go_loopw [4] (fun _ wr => ∃ left cnt HO, Hid (wr.ranges Tryz.prog 9 Rh b (w.heap.size + 1) H.length (dat H) left cnt) ∧ Hid (wr.ownsMap Tryz.prog 9 Rh w.heap.size HO.length (dat HO)) ∧
      Hid (TF (fun q => w.heap.size + 2 ≤ q ∧ q < wr.heap.size) wr HO (T.filter fun p => !left (.string p.1))) ∧ w.heap.size + 2 ≤ wr.heap.size ∧ Ext w wr) (fun _ wr => wr.rangeLeft b (w.heap.size + 1))
  case atStart =>
    refine ⟨_, _, [], HG0.out, HM0.out, ?_, by omega, hx0⟩
    have : (T.filter fun p => !Maps.has (dat H) (.string p.1)) = [] := by
      rw [List.filter_eq_nil_iff]
      intro p hp
      rw [dat_has]
      rcases HT.out.get p.1 with ⟨-, e⟩ | ⟨v, d, e, -⟩
      · exact absurd rfl (tGet_none e p hp)
      rw [e]; simp
    rw [this]
    exact trivial
  obtain ⟨left, cnt, HO, hrg, hm, htf, hsz, hx⟩ := hrel
  go_wp2_with (at_next; refine wpList_next_ranges _ rfl _ rfl 9 lawS Rh strV (fun c : Value => c) (fun key kl hk => by obtain ⟨x, hx, -⟩ := keyS_inv hk; exact ⟨x, hx⟩) (fun v y _ => ⟨v, rfl⟩) b (w.heap.size + 1) H.length (dat H) left cnt rfl hrg.out ?_ ?_)
  · intro _ hl0
    have HL0 := hid hl0
    clear hl0
    go_wp2
    go_ret
    refine ⟨w.heap.size, rfl, ?_, Nat.le_refl _, hx⟩
    have e : (T.filter fun p => !left (.string p.1)) = T := by rw [List.filter_eq_self]; intro p _; rw [HL0.out]; rfl
    have := htf.out
    rw [e] at this
    exact ⟨HO, hm.out, this.keep fun q hq hl => ⟨⟨by omega, by omega, by omega⟩, rfl⟩⟩
  intro x c kl yd yp w1 cnt1 hkey hlk hv hat hrg1 hlt hg1 hs2 hen
  obtain ⟨x', ex, rfl, hxl⟩ := keyS_inv hkey
  have ex : x = x' := strV_inj ex
  subst ex
  unfold Rh at hv
  simp only [Option.some.injEq, Prod.mk.injEq] at hv
  obtain ⟨rfl, rfl⟩ := hv
  have hgx := dat_get hat
  rcases HT.out.get x with ⟨e, -⟩ | ⟨v', d, e1, e2, hsl⟩
  · rw [e] at hgx; cases hgx
  rw [e1] at hgx
  injection hgx with hgx
  subst hgx
  have hput := filter_put HR.out e2 left
  have hx1 : Ext w w1 := hx.grown hg1 hx.size (fun q hq => by cases hq; omega)
  obtain ⟨p, n, cc, rfl, hby⟩ := hsl
  have hn := hby.2.2.1.2
  have HB := hid (hby.below hx1)
  have HP := hid hput
  have HRG := hid hrg1
  have HM1 := hid (hm.out.kept hg1 (by simp))
  have HTF := hid (htf.out.keep (G := fun q => w.heap.size + 2 ≤ q ∧ q < w1.heap.size) (w' := w1) fun q hq hl => ⟨⟨hq.1, by omega⟩, hg1.block q hl (by simp; omega)⟩)
  have hz1 : w.heap.size + 2 ≤ w1.heap.size := by omega
  have HLE := hid hrg.out.left_eq
  have hHO : HO.length < maxLen := by
    have h1 := htf.out.len
    have h2 : (T.filter fun p => !left (.string p.1)).length ≤ T.length := List.length_filter_le _ _
    unfold maxLen; omega
  clear hkey hat hrg1 hs2 hput e1 e2 hby hg1 hlk hsz
  go_wp2_with fail
  refine (cloneB_some HB.out).mono ?_
  rintro e w2 ⟨v, rfl, hown, hb2⟩
  have HV := hid (hown.slv (by omega))
  have HRG2 := hid (HRG.out.kept (grown_below hb2 none) (by simp) (by simp))
  have HM2 := hid (HM1.out.kept (grown_below hb2 none) (by simp))
  have hz2 := hb2.size
  have HX2 := hid (Ext.trans' hx1 hb2)
  have HTF2 := hid (HTF.out.keep (G := fun q => w.heap.size + 2 ≤ q ∧ q < w2.heap.size) (w' := w2) fun q hq hl => ⟨⟨hq.1, by omega⟩, hb2.block q hl⟩)
  have hk := keyS x hxl
  clear hown hb2
  go_wp2_with (at_mapUpdate; refine wpList_mapUpdate_own _ rfl _ _ _ 73 rfl 9 37 lawS Tryz.underlying73 Rh w.heap.size HO.length (dat HO) rfl HM2.out hHO _ _ _ rfl rfl hk _ [] rfl ?_; intro w3 hown3 hgrow3)
  rw [dat_put] at hown3
  have hm3 := own_tight hown3
  have hrg3 := HRG2.out.kept hgrow3 (by simp; omega) (by simp)
  have hz3 := hgrow3.size
  have htf3 : TF (fun q => w.heap.size + 2 ≤ q ∧ q < w3.heap.size) w3 (tPut HO x v) (T.filter fun p => !(left (.string p.1) && !(Lit.string p.1).sameKey (.string x))) := by
    rw [← HP.out]
    refine TF.put (HTF2.out.keep fun q hq hl => ⟨⟨hq.1, by omega⟩, hgrow3.block q hl (by intro e; injection e with e; omega)⟩) x ?_
    exact HV.out.keep fun q hq hl => ⟨⟨by omega, by omega⟩, hgrow3.block q hl (by intro e; injection e with e; omega)⟩
  have HTF3 := hid htf3
  have HRG3 := hid hrg3
  have HM3 := hid hm3
  have hx3 : Ext w w3 := HX2.out.grown hgrow3 HX2.out.size (fun q hq => by cases hq; exact Nat.le_refl _)
  clear hown3 hm3 hrg3 htf3 hgrow3
  go_wp2
  go_frame
  go_roundw
  case rel => exact ⟨_, cnt1, _, HRG3.out, HM3.out, HTF3.out, by omega, hx3⟩
  case measure => rw [HRG3.out.left_eq, HLE.out]; exact hlt

theorem filter_tot {T : Tab} (hT : tRise T) {x : Nm} {d : By} (hx : tGet T x = some d) (left : Lit → Bool) (hl : left (.string x) = true) :
    tTot (T.filter fun p => !(left (.string p.1) && !(Lit.string p.1).sameKey (.string x))) = tTot (T.filter fun p => !left (.string p.1)) + d.length := by
  rw [← filter_put hT hx left]
  unfold tPut
  rw [tTot_ins]
  have e : tDel (T.filter fun p => !left (.string p.1)) x = T.filter fun p => !left (.string p.1) := by
    unfold tDel
    rw [List.filter_eq_self]
    intro p hp
    have h := (List.mem_filter.1 hp).2
    simp only [Bool.not_eq_true', beq_eq_false_iff_ne, ne_eq]
    intro e
    rw [e, hl] at h
    cases h
  rw [e]
  simp only
  omega
theorem filter_tot_le (f : Nm × By → Bool) : ∀ T : Tab, tTot (T.filter f) ≤ tTot T := by
  intro T
  induction T with
  | nil => simp
  | cons y r ih =>
    rw [List.filter_cons]
    split
    · rw [tTot_cons, tTot_cons]; omega
    rw [tTot_cons]; omega

set_option maxHeartbeats 1000000 in
theorem total_any {F : Nat → Prop} {w : World} {b : Nat} {T : Tab} (h : TabAt F w b T) (hT : tTot T ≤ 16777216) :
    Calls Tryz.prog 68 #[.map (some b)] w fun e w' => e = .returned (.int .i64 (tTot T : Int)) ∧ Ext w w' := by
  have hbl := h.lt
  have HR := hid h.rise
  obtain ⟨H, hown, htf⟩ := h
  have HT := hid htf
  have HO := hid hown
  clear hown htf
  go_enter Tryz.func68, Tryz.ntmps68
  go_wp2_with (at_range; refine wpList_range_own _ rfl _ 73 rfl 9 37 lawS Tryz.underlying73 Rh b H.length (dat H) rfl HO.out ?_; intro w0 hrg0 hg0 hs0)
  go_frame
  have hx0 : Ext w w0 := (Below.refl _ _).grown hg0 (Nat.le_refl _) (by simp)
  have HG0 := hid hrg0
  clear hs0 hg0 hrg0 HO
  go_loopw [3, 5] (fun n _ wr => ∃ (left : Lit → Bool) (cnt m : Nat), Hid (wr.ranges Tryz.prog 9 Rh b w.heap.size H.length (dat H) left cnt) ∧ n = .int .i64 (m : Int) ∧
      Hid (m = tTot (T.filter fun p => !left (.string p.1))) ∧ m ≤ 16777216 ∧ Ext w wr) (fun _ _ wr => wr.rangeLeft b w.heap.size)
  case atStart =>
    refine ⟨_, _, 0, HG0.out, rfl, ?_, by omega, hx0⟩
    have : (T.filter fun p => !Maps.has (dat H) (.string p.1)) = [] := by
      rw [List.filter_eq_nil_iff]
      intro p hp
      rw [dat_has]
      rcases HT.out.get p.1 with ⟨-, e⟩ | ⟨v, d, e, -⟩
      · exact absurd rfl (tGet_none e p hp)
      rw [e]; simp
    rw [this]
    rfl
  obtain ⟨left, cnt, m, hrg, rfl, hm, hm16, hx⟩ := hrel
  go_wp2_with (at_next; refine wpList_next_ranges _ rfl _ rfl 9 lawS Rh strV (fun c : Value => c) (fun key kl hk => by obtain ⟨x, hx, -⟩ := keyS_inv hk; exact ⟨x, hx⟩) (fun v y _ => ⟨v, rfl⟩) b w.heap.size H.length (dat H) left cnt rfl hrg.out ?_ ?_)
  · intro _ hl0
    have HL0 := hid hl0
    clear hl0
    go_wp2
    go_ret
    have e : (T.filter fun p => !left (.string p.1)) = T := by rw [List.filter_eq_self]; intro p _; rw [HL0.out]; rfl
    have := hm.out
    rw [e] at this
    refine ⟨?_, hx⟩
    rw [← this]; rfl
  intro x c kl yd yp w1 cnt1 hkey hlk hv hat hrg1 hlt hg1 hs2 hen
  obtain ⟨x', ex, rfl, hxl⟩ := keyS_inv hkey
  have ex : x = x' := strV_inj ex
  subst ex
  unfold Rh at hv
  simp only [Option.some.injEq, Prod.mk.injEq] at hv
  obtain ⟨rfl, rfl⟩ := hv
  have hgx := dat_get hat
  rcases HT.out.get x with ⟨e, -⟩ | ⟨v', d, e1, e2, hsl⟩
  · rw [e] at hgx; cases hgx
  rw [e1] at hgx
  injection hgx with hgx
  subst hgx
  have hft := filter_tot HR.out e2 left hlk
  have hx1 : Ext w w1 := hx.grown hg1 hx.size (fun q hq => by cases hq; exact Nat.le_refl _)
  obtain ⟨p, n, cc, rfl, hby⟩ := hsl
  have hnd := hby.1
  have hm2 : m + n ≤ 16777216 := by
    have h1 := filter_tot_le (fun p => !(left (.string p.1) && !(Lit.string p.1).sameKey (.string x))) T
    have h2 := hm.out
    omega
  have HMN := hid (show m + n = tTot (T.filter fun p => !(left (.string p.1) && !(Lit.string p.1).sameKey (.string x))) by have := hm.out; omega)
  have HRG := hid hrg1
  have HLE := hid hrg.out.left_eq
  clear hkey hat hrg1 hs2 hft e1 e2 hby hg1 hlk hnd
  go_wp2
  go_roundw
  case rel => exact ⟨_, cnt1, m + n, HRG.out, by go_num, HMN.out, hm2, hx1⟩
  case measure => rw [HRG.out.left_eq, HLE.out]; exact hlt
end Go.Proofs.YtikjckdoldiddaaGreatDoor

/- The walks of the acts' own functions. -/
namespace Go.Proofs.YtikjckdoldiddaaGreatDoor
open Go.RowKit Go.Maps
set_option linter.unusedVariables false
set_option linter.unusedSimpArgs false
attribute [local go_sem] bmax2 bmin2 bmax_two bmin_two

theorem ByF.take {F : Nat → Prop} {w : World} {a : Option Addr} {n c : Nat} {d : By} (h : ByF F w a n c d) {q : Nat} (hq : q ≤ n) : ByF F w a q c (d.take q) := by
  obtain ⟨h1, h2, h3, h4, h5⟩ := h
  refine ⟨by simp; omega, by omega, ⟨h3.1, by omega⟩, h4, fun p hp => ⟨(h5 p hp).1, fun k hk => ?_⟩⟩
  have hk' : k < d.length := by simp at hk; omega
  rw [List.getElem_take]
  exact (h5 p hp).2 k hk'
theorem ByF.drop {F : Nat → Prop} {w : World} {b o n c : Nat} {d : By} (h : ByF F w (some ⟨b, o, none⟩) n c d) {q : Nat} (hq : q ≤ n) : ByF F w (some ⟨b, o + q, none⟩) (n - q) (c - q) (d.drop q) := by
  obtain ⟨h1, h2, h3, h4, h5⟩ := h
  refine ⟨by simp; omega, by omega, ⟨by omega, by omega⟩, (fun e => by cases e), fun p hp => ?_⟩
  cases hp
  refine ⟨fun _ => rfl, fun k hk => ?_⟩
  have hk' : q + k < d.length := by simp at hk; omega
  rw [List.getElem_drop]
  have := (h5 _ rfl).2 (q + k) hk'
  rw [Nat.add_assoc]
  exact this
theorem OwnB.zero {B : Nat} {w : World} {a : Option Addr} {n c : Nat} {d : By} (h : OwnB B w (.slice a (0 + n) c) (0 + n) ([] ++ d)) : OwnB B w (.slice a n c) n d := by
  rw [Nat.zero_add, List.nil_append] at h; exact h
/-- What a map of files is behind an act. -/
def ActPost (F : Nat → Prop) (mb : Nat) (T : Tab) (w : World) (e : Ending) (w' : World) : Prop :=
  e = .returned (.tuple #[]) ∧ TabAt (fun q => F q ∨ (w.heap.size ≤ q ∧ q < w'.heap.size)) w' mb T ∧ Frm (fun q => q = mb) w w'

theorem tab_store {F : Nat → Prop} {w w1 w3 : World} {mb : Nat} {T : Tab} {H : List (Nm × Value)} (htf : TF F w H T) (hF : ¬ F mb) (hx : Ext w w1) {n : Nm} {v : Value} {b : By} {k : Nat} (hv : SlV (fun q => w.heap.size ≤ q ∧ q < w1.heap.size) w1 v b)
    (hmb : mb < w.heap.size) (hown : w3.ownsMap Tryz.prog 9 Rh mb k (dat (tPut H n v))) (hg : w1.grownBy w3 (some mb)) :
    TabAt (fun q => F q ∨ (w.heap.size ≤ q ∧ q < w3.heap.size)) w3 mb (tPut T n b) ∧ Frm (fun q => q = mb) w w3 := by
  refine ⟨⟨_, own_tight hown, TF.put (htf.keep fun q hq hl => ⟨.inl hq, ?_⟩) n (hv.keep fun q hq hl => ⟨.inr ⟨hq.1, Nat.lt_of_lt_of_le hq.2 hg.size⟩, ?_⟩)⟩, Frm.after_ext hx (Frm.of_grown hg)⟩
  · rw [hg.block q (Nat.lt_of_lt_of_le hl hx.size) (by intro e; injection e with e; subst e; exact hF hq)]; exact hx.block q hl
  exact hg.block q hl (by intro e; injection e with e; omega)

set_option maxHeartbeats 1000000 in
theorem Write1_any {F G : Nat → Prop} {w : World} {mb : Nat} {T : Tab} (h : TabAt F w mb T) (hF : ¬ F mb) {n : Nm} {k : Nat} {b : By} (hf : ActS.Fits (.write n k b) T) (hT : T.length ≤ 4096) (hsz : tTot T ≤ 16777216)
    {a : Option Addr} {bn bc : Nat} (hb : ByF G w a bn bc b) (hbl : b.length ≤ 16777216) {p q : Nat} (hp : w.cell? ⟨p, 0, none⟩ = some (.string ⟨n.toArray⟩)) (hq : w.cell? ⟨q, 0, none⟩ = some (.int .i64 (k : Int))) :
    Calls Tryz.prog 121 #[.map (some mb), .slice a bn bc, .pointer (some ⟨p, 0, none⟩), .pointer (some ⟨q, 0, none⟩)] w (ActPost F mb ((ActS.write n k b).run T) w) := by
  have hmb := h.lt
  obtain ⟨hn32, hk, hnew⟩ := hf
  have hml : n.length ≤ maxLen := by unfold maxLen; omega
  obtain ⟨v, hlook, hv⟩ := h.look n hml
  obtain ⟨H, hown, htf⟩ := h
  have hHl := htf.len
  have hol := tOld_le T n
  obtain rfl : bn = b.length := hb.1
  have hpl := World.block_lt_of_cell? w _ hp
  have hql := World.block_lt_of_cell? w _ hq
  rcases hv with ⟨hg, rfl⟩ | ⟨d, hg, p1, n1, c1, rfl, hd⟩
  · have ho : tOld T n = [] := by unfold tOld; rw [hg]; rfl
    rw [ho] at hk
    have hk0 : k = 0 := by simpa using hk
    subst hk0
    have hrun : (ActS.write n 0 b).run T = tPut T n b := by simp [ActS.run, ho, wrB]
    rw [hrun]
    have HB := hid hb
    have HO := hid (ownB_made w w.heap.size (Nat.le_refl _))
    have HT := hid htf
    have HW := hid hown
    have hkey := keyS n hml
    have hHn : H.length < maxLen := by unfold maxLen; omega
    have hlt : ¬ ((b.length : Int) < 0) := by omega
    have hx0 := ext_alloc w (.cells #[] 5)
    clear hb htf hown hg hHl hol ho hnew hrun
    go_enter Tryz.func121, Tryz.ntmps121
    go_wp2_with (first
      | (at_builtin; refine wpList_appB rfl (.tmp 11) (.tmp 14) rfl w.heap.size _ 0 [] rfl HO.out none 0 0 [] rfl (ByF.nil_ G _) (by omega) (by simp) ?_; intro g1 c1 w1 hown1 hx1; have HO1 := hid (OwnB.zero hown1); have hx01 : Ext w w1 := hx0.trans hx1; have HB1 := hid (HB.out.below hx01); have hz1 := hx01.size; clear hown1 hx1)
      | (at_builtin; refine wpList_appB rfl (.tmp 15) (.tmp 16) rfl w.heap.size _ 0 [] rfl HO1.out a b.length bc b rfl HB1.out (by omega) (by omega) ?_; intro g2 c2 w2 hown2 hx2; have hx02 : Ext w w2 := hx01.trans hx2; have HO2 := hid (OwnB.zero hown2); have hp2 := (hx02.cell (p := ⟨p, 0, none⟩) hpl).trans hp; clear hown2 hx2)
      | (at_mapUpdate; refine wpList_mapUpdate_own _ rfl _ _ _ 73 rfl 9 37 lawS Tryz.underlying73 Rh mb H.length (dat H) rfl (HW.out.kept (grown_below hx02 none) (by simp)) hHn _ (.slice (some ⟨g2, 0, none⟩) b.length c2) _ rfl rfl hkey _ [] rfl ?_; intro w3 hown3 hgrow3))
    rw [dat_put] at hown3
    obtain ⟨r1, r2⟩ := tab_store HT.out hF hx02 (HO2.out.slv (by omega)) hmb hown3 hgrow3
    go_end0
    exact ⟨rfl, r1, r2⟩
  obtain ⟨c0, hc0⟩ : ∃ c0, c0 = c1 := ⟨_, rfl⟩
  subst hc0
  have ho : tOld T n = d := by unfold tOld; rw [hg]; rfl
  rw [ho] at hk hol
  have hrun : (ActS.write n k b).run T = tPut T n (wrB d k b) := by simp [ActS.run, ho]
  rw [hrun]
  obtain rfl : n1 = d.length := hd.1
  have hkc : (k : Int) ≤ (c0 : Int) := by have := hd.2.1; omega
  have hk0 : (0 : Int) ≤ (k : Int) := by omega
  have HB := hid hb
  have HD := hid (hd.take hk)
  have HDD := hid hd
  have HO := hid (ownB_made w w.heap.size (Nat.le_refl _))
  have HT := hid htf
  have HW := hid hown
  have hkey := keyS n hml
  have hHn : H.length < maxLen := by unfold maxLen; omega
  have hx0 := ext_alloc w (.cells #[] 5)
  have htk : (d.take k).length = k := by simp; omega
  have HTK := hid htk
  clear hb htf hown hg hHl ho hnew hrun htk
  by_cases hlt : k + b.length < d.length
  · have hltb : decide ((k : Int) + (b.length : Int) < (d.length : Int)) = true := by simp; omega
    obtain ⟨pb, po, ps⟩ := p1
    have hps : ps = none := by obtain ⟨-, h2, -, -, h5⟩ := HDD.out; exact (h5 _ rfl).1 (by omega)
    subst hps
    have hlo0 : (0 : Int) ≤ (k : Int) + (b.length : Int) := by omega
    have hlo1 : (k : Int) + (b.length : Int) ≤ (d.length : Int) := by omega
    have hdc : d.length ≤ c0 := hd.2.1
    have hlc : k + b.length < c0 := by omega
    have hlcI : (k : Int) + (b.length : Int) < (c0 : Int) := by omega
    clear hd
    go_enter Tryz.func121, Tryz.ntmps121
    go_wp2_with (first
      | (at_builtin; refine wpList_appB rfl (.tmp 11) (.tmp 14) rfl w.heap.size _ 0 [] rfl HO.out (some ⟨pb, po, none⟩) k c0 (d.take k) rfl (HD.out.below hx0) (by omega) (by simp) ?_; intro g1 c1 w1 hown1 hx1; have HO1 := hid (OwnB.zero hown1); have hx01 : Ext w w1 := hx0.trans hx1; have HB1 := hid (HB.out.below hx01); have hz1 := hx01.size; clear hown1 hx1)
      | (at_builtin; refine wpList_appB rfl (.tmp 15) (.tmp 16) rfl w.heap.size _ k (d.take k) rfl HO1.out a b.length bc b rfl HB1.out (by omega) (by omega) ?_; intro g2 c2 w2 hown2 hx2; have hx02 : Ext w w2 := hx01.trans hx2; have HO2 := hid hown2; have hp2 := (hx02.cell (p := ⟨p, 0, none⟩) hpl).trans hp; clear hown2 hx2)
      | (at_builtin; refine wpList_appB rfl (.tmp 23) (.tmp 27) rfl w.heap.size _ (k + b.length) (d.take k ++ b) rfl HO2.out (some ⟨pb, po + (k + b.length), none⟩) (d.length - (k + b.length)) (c0 - (k + b.length)) (d.drop (k + b.length)) rfl ((HDD.out.drop (by omega)).below hx02) (by omega) (by have := hx02.size; omega) ?_; intro g3 c3 w3 hown3 hx3; have hx03 : Ext w w3 := hx02.trans hx3; have HO3 := hid hown3; have hp3 := (hx03.cell (p := ⟨p, 0, none⟩) hpl).trans hp; clear hown3 hx3)
      | (at_mapUpdate; refine wpList_mapUpdate_own _ rfl _ _ _ 73 rfl 9 37 lawS Tryz.underlying73 Rh mb H.length (dat H) rfl (HW.out.kept (grown_below hx03 none) (by simp)) hHn _ (.slice (some ⟨g3, 0, none⟩) (k + b.length + (d.length - (k + b.length))) c3) _ rfl rfl hkey _ [] rfl ?_; intro w4 hown4 hgrow4))
    rw [dat_put] at hown4
    have e : wrB d k b = d.take k ++ b ++ d.drop (k + b.length) := rfl
    rw [e]
    obtain ⟨r1, r2⟩ := tab_store HT.out hF hx03 (HO3.out.slv (by omega)) hmb hown4 hgrow4
    go_end0
    exact ⟨rfl, r1, r2⟩
  have hltb : decide ((k : Int) + (b.length : Int) < (d.length : Int)) = false := by simp; omega
  go_enter Tryz.func121, Tryz.ntmps121
  go_wp2_with (first
    | (at_builtin; refine wpList_appB rfl (.tmp 11) (.tmp 14) rfl w.heap.size _ 0 [] rfl HO.out (some p1) k c0 (d.take k) rfl (HD.out.below hx0) (by omega) (by simp) ?_; intro g1 c1 w1 hown1 hx1; have HO1 := hid (OwnB.zero hown1); have hx01 : Ext w w1 := hx0.trans hx1; have HB1 := hid (HB.out.below hx01); have hz1 := hx01.size; clear hown1 hx1)
    | (at_builtin; refine wpList_appB rfl (.tmp 15) (.tmp 16) rfl w.heap.size _ k (d.take k) rfl HO1.out a b.length bc b rfl HB1.out (by omega) (by omega) ?_; intro g2 c2 w2 hown2 hx2; have hx02 : Ext w w2 := hx01.trans hx2; have HO2 := hid hown2; have hp2 := (hx02.cell (p := ⟨p, 0, none⟩) hpl).trans hp; clear hown2 hx2)
    | (at_mapUpdate; refine wpList_mapUpdate_own _ rfl _ _ _ 73 rfl 9 37 lawS Tryz.underlying73 Rh mb H.length (dat H) rfl (HW.out.kept (grown_below hx02 none) (by simp)) hHn _ (.slice (some ⟨g2, 0, none⟩) (k + b.length) c2) _ rfl rfl hkey _ [] rfl ?_; intro w3 hown3 hgrow3))
  rw [dat_put] at hown3
  have e : wrB d k b = d.take k ++ b := by unfold wrB; rw [List.drop_eq_nil_of_le (by omega), List.append_nil]
  rw [e]
  obtain ⟨r1, r2⟩ := tab_store HT.out hF hx02 (HO2.out.slv (by omega)) hmb hown3 hgrow3
  go_end0
  exact ⟨rfl, r1, r2⟩

theorem tab_strike {F : Nat → Prop} {w w3 : World} {mb : Nat} {T : Tab} {H : List (Nm × Value)} (htf : TF F w H T) (hF : ¬ F mb) {n : Nm} {k : Nat}
    (hown : w3.ownsMap Tryz.prog 9 Rh mb k (dat (tDel H n))) (hg : w.grownBy w3 (some mb)) :
    TabAt (fun q => F q ∨ (w.heap.size ≤ q ∧ q < w3.heap.size)) w3 mb (tDel T n) ∧ Frm (fun q => q = mb) w w3 :=
  ⟨⟨_, own_tight hown, TF.del n (htf.keep fun q hq hl => ⟨.inl hq, hg.block q hl (by intro e; injection e with e; subst e; exact hF hq)⟩)⟩, Frm.of_grown hg⟩

set_option maxHeartbeats 1000000 in
theorem Drop1_any {F : Nat → Prop} {w : World} {mb : Nat} {T : Tab} (h : TabAt F w mb T) (hF : ¬ F mb) {n : Nm} (hn32 : n.length ≤ 32)
    {a : Option Addr} {bn bc : Nat} {p : Nat} (hp : w.cell? ⟨p, 0, none⟩ = some (.string ⟨n.toArray⟩)) :
    Calls Tryz.prog 112 #[.map (some mb), .slice a bn bc, .pointer (some ⟨p, 0, none⟩)] w (ActPost F mb ((ActS.drop n).run T) w) := by
  have hmb := h.lt
  have hml : n.length ≤ maxLen := by unfold maxLen; omega
  obtain ⟨H, hown, htf⟩ := h
  have hkey := keyS n hml
  have HT := hid htf
  have HW := hid hown
  clear htf hown
  go_enter Tryz.func112, Tryz.ntmps112
  go_wp2_with (at_delete; refine wpList_delete_own _ rfl _ _ 73 9 rfl 37 lawS Tryz.underlying73 Rh mb H.length (dat H) rfl HW.out _ _ rfl hkey ?_; intro w3 hown3 hturn3)
  rw [dat_del] at hown3
  obtain ⟨r1, r2⟩ := tab_strike HT.out hF hown3 hturn3.grown
  go_end0
  exact ⟨rfl, r1, r2⟩

end Go.Proofs.YtikjckdoldiddaaGreatDoor

/- Bytes behind bytes and a map's element as operations of a region; the walk of a trim's own function. -/
namespace Go.Proofs.YtikjckdoldiddaaGreatDoor
open Go.RowKit Go.Maps
set_option linter.unusedVariables false
set_option linter.unusedSimpArgs false
attribute [local go_sem] bmax2 bmin2 bmax_two bmin_two

/-- Bytes behind bytes of the call's own: one operation of a region. -/
theorem wp_appB {F : Nat → Prop} {w : World} {o : Oper} {a : Act} {K : Act → World → Prop} {Q : Exit → Act → World → Prop} (s x : Operand)
    (ho : o.op = .call { callee := .builtin .append, args := #[s, x], argTypes := #[37, 37] })
    (B : Nat) (v : Value) (n : Nat) (d0 : By) (hs : a.eval s = v) (hown : OwnB B w v n d0) (A : Option Addr) (m c : Nat) (d : By) (hx : a.eval x = .slice A m c) (hd : ByF F w A m c d)
    (hlen : n + m ≤ 140737488351232) (hB : B ≤ w.heap.size)
    (h : ∀ g' c' w', OwnB B w' (.slice (some ⟨g', 0, none⟩) (n + m) c') (n + m) (d0 ++ d) → Below B w w' → K (a.put o.dst (.slice (some ⟨g', 0, none⟩) (n + m) c')) w') : o.wp Tryz.prog a w K Q := by
  obtain ⟨hn, g0, c0, rfl, hr⟩ := hown
  have hm := hd.1
  have hraw := hd.raw
  have hc := hd.2.2.2.1
  cases A with
  | none =>
    have h0 := hraw.2.1 rfl
    have hc0 := hc rfl
    subst h0; subst hc0
    have hd0 : d = [] := List.eq_nil_of_length_eq_zero hm.symm
    subst hd0
    obtain ⟨i, hi, hz, hz1, hz2⟩ := info_parts info_u8
    have := h g0 c0 w (by rw [List.append_nil]; exact ⟨hn, g0, c0, rfl, hr⟩) (Below.refl _ _)
    have hrun := run_append_owned_none (P := Tryz.prog) (w := w) B 37 o.type 5 i 1 Tryz.underlying37 hi _ n _ hr
    unfold Oper.wp
    simp only [Nat.add_zero] at this
    simpa [execOp, ho, resolve, invoke, builtin, hs, hx, hrun, Result.andThen, Oper.upon] using this
  | some ad =>
    obtain ⟨i, hi, hz, hz1, hz2⟩ := info_parts info_u8
    refine wp_append_own w s x _ ho B 5 i (.int .u8 0) 1 1 Tryz.underlying37 hi hz hz1 hz2 rfl (by decide) _ n _ hs hr ad m c (u8s d) hx (by simp [u8s, hm]) (hraw.2.2 ad rfl) (u8s_mem d) (by unfold maxLen; omega) (by omega) hB fun v' w' h2 h3 h4 => ?_
    have hne : v' ≠ .slice none 0 0 := fun e => by have := (h4.1 e).1; cases this
    rcases h2.2 with ⟨e, -⟩ | ⟨g', cap, cur, rfl, hb, -⟩
    · exact absurd e hne
    refine h g' cap w' ⟨by simp [hn, hm], g', cap, rfl, by simpa [u8s] using h2⟩ ?_
    exact (Below.refl _ _).grown h3 hB fun q hq => (hr.lt q hq).1
theorem elem_u8 (W : World) : (sizeOf (Tryz.prog.elem 37)).run Tryz.prog W = .ok 1 W := by kernel_rfl
theorem under_u8 : Tryz.prog.underlying 37 = some (.slice (Tryz.prog.elem 37)) := by kernel_rfl
theorem cut_by {F : Nat → Prop} {w : World} {a : Option Addr} {n c : Nat} {d : By} (h : ByF F w a n c d) {l u : Nat} (hlu : l ≤ u) (hu : u ≤ n) :
    ByF F w (if c = l then a else a.map (·.add (l * 1))) (u - l) (c - l) ((d.take u).drop l) := by
  obtain ⟨h1, h2, h3, h4, h5⟩ := h
  have hlen : ((d.take u).drop l).length = u - l := by simp; omega
  refine ⟨hlen.symm, by omega, ⟨by omega, by omega⟩, ?_, ?_⟩
  · intro e
    split at e
    · omega
    cases a with
    | none => have := h4 rfl; omega
    | some p => cases e
  intro p hp
  split at hp
  · rename_i e
    refine ⟨fun hc => by omega, fun k hk => ?_⟩
    rw [hlen] at hk; omega
  cases a with
  | none => cases hp
  | some q =>
    obtain ⟨h6, h7⟩ := h5 q rfl
    obtain ⟨qb, qo, qs⟩ := q
    obtain rfl : qs = none := h6 (by omega)
    have hadd : (⟨qb, qo, none⟩ : Addr).add (l * 1) = ⟨qb, qo + l * 1, none⟩ := by
      unfold Addr.add
      split
      · rename_i e; rw [e]; rfl
      rfl
    rw [Option.map_some, hadd] at hp
    cases hp
    refine ⟨fun hc => rfl, fun k hk => ?_⟩
    rw [hlen] at hk
    have h8 := h7 (l + k) (by omega)
    refine ⟨h8.1, ?_⟩
    have e : ((d.take u).drop l)[k]'(by omega) = d[l + k]'(by omega) := by simp
    rw [e]
    have e2 : qo + l * 1 + k = qo + (l + k) := by omega
    show w.cell? ⟨qb, qo + l * 1 + k, none⟩ = _
    rw [e2]
    exact h8.2
/-- What is sliced off at its front. -/
theorem cut_l {F : Nat → Prop} {w : World} {a : Option Addr} {n c : Nat} {d : By} (h : ByF F w a n c d) (l : Int) (h0 : 0 ≤ l) (h1 : l ≤ n) :
    ∃ a' m k, (∀ W, (Instr.slice 37 (.slice a n c) (some (.int .i64 l)) none none).run Tryz.prog W = .ok (.slice a' m k) W) ∧
      (∀ W, (Instr.sliceAt 37 (.slice a n c) (some (.int .i64 l)) none none).run Tryz.prog W = .ok (.slice a' m k) W) ∧ ByF F w a' m k (d.drop l.toNat) := by
  have hr : ∀ W, (Instr.slice 37 (.slice a n c) (some (.int .i64 l)) none none).run Tryz.prog W = .ok (sliced a l.toNat n c 1) W := fun W => by
    rw [run_slice_l W 37 a n c under_u8 .i64 l h0 h1, elem_u8]
    rfl
  refine ⟨_, _, _, hr, fun W => (run_sliceAt_slice W _ _ _ _ _ under_u8).trans (hr W), ?_⟩
  have := cut_by h (l := l.toNat) (u := n) (by omega) (Nat.le_refl _)
  rwa [List.take_of_length_le (by rw [h.1]; exact Nat.le_refl _)] at this
theorem cut_h {F : Nat → Prop} {w : World} {a : Option Addr} {n c : Nat} {d : By} (h : ByF F w a n c d) (u : Int) (h0 : 0 ≤ u) (h1 : u ≤ n) :
    ∃ a' m k, (∀ W, (Instr.slice 37 (.slice a n c) none (some (.int .i64 u)) none).run Tryz.prog W = .ok (.slice a' m k) W) ∧
      (∀ W, (Instr.sliceAt 37 (.slice a n c) none (some (.int .i64 u)) none).run Tryz.prog W = .ok (.slice a' m k) W) ∧ ByF F w a' m k (d.take u.toNat) := by
  have hc := h.2.1
  have hr : ∀ W, (Instr.slice 37 (.slice a n c) none (some (.int .i64 u)) none).run Tryz.prog W = .ok (sliced a 0 u.toNat c 1) W := fun W => by
    rw [run_slice_h W 37 a n c under_u8 .i64 u h0 (by omega), elem_u8]
    rfl
  refine ⟨_, _, _, hr, fun W => (run_sliceAt_slice W _ _ _ _ _ under_u8).trans (hr W), ?_⟩
  exact cut_by h (l := 0) (u := u.toNat) (by omega) (by omega)
theorem cut_lh {F : Nat → Prop} {w : World} {a : Option Addr} {n c : Nat} {d : By} (h : ByF F w a n c d) (l u : Int) (h0 : 0 ≤ l) (h1 : l ≤ u) (h2 : u ≤ n) :
    ∃ a' m k, (∀ W, (Instr.slice 37 (.slice a n c) (some (.int .i64 l)) (some (.int .i64 u)) none).run Tryz.prog W = .ok (.slice a' m k) W) ∧
      (∀ W, (Instr.sliceAt 37 (.slice a n c) (some (.int .i64 l)) (some (.int .i64 u)) none).run Tryz.prog W = .ok (.slice a' m k) W) ∧ ByF F w a' m k ((d.take u.toNat).drop l.toNat) := by
  have hc := h.2.1
  have hr : ∀ W, (Instr.slice 37 (.slice a n c) (some (.int .i64 l)) (some (.int .i64 u)) none).run Tryz.prog W = .ok (sliced a l.toNat u.toNat c 1) W := fun W => by
    rw [run_slice_lh W 37 a n c under_u8 .i64 .i64 l u h0 h1 (by omega), elem_u8]
    rfl
  refine ⟨_, _, _, hr, fun W => (run_sliceAt_slice W _ _ _ _ _ under_u8).trans (hr W), ?_⟩
  exact cut_by h (l := l.toNat) (u := u.toNat) (by omega) (by omega)
/-- One row behind a row of the call's own: one operation of a region. -/
theorem wp_appRow {w : World} {o : Oper} {a : Act} {K : Act → World → Prop} {Q : Exit → Act → World → Prop} (s x : Operand) (t : TypeId)
    (ho : o.op = .call { callee := .builtin .append, args := #[s, x], argTypes := #[t, t] }) (base : Nat) (e : TypeId) (z : Value) (size bytes : Nat) (ht : Tryz.prog.underlying t = some (.slice e)) (hi : (Tryz.prog.info? e).map (fun i => (i.zero, i.size, i.bytes)) = some (some z, size, bytes))
    (hzs : z.cells.size = size) (hsz : 0 < size) (v : Value) (n : Nat) (xs : List Value) (hs : a.eval s = v) (hown : w.ownsRow base e size v n xs)
    (ad : Addr) (m c : Nat) (news : List Value) (hx : a.eval x = .slice (some ad) m c) (hr : RowAt w (some ad) m size news) (h1 : ∀ u ∈ news, u.oneCell' = true)
    (h63 : n + m ≤ maxLen) (hbytes : (n + m) * bytes ≤ 140737488355328) (hbase : base ≤ w.heap.size)
    (h : ∀ v' w', w'.ownsRow base e size v' (n + m) (xs ++ news) → w.grownBy w' v.ownBlock → (v'.ownBlock = v.ownBlock ∨ v'.ownBlock = some w.heap.size) → K (a.put o.dst v') w') : o.wp Tryz.prog a w K Q := by
  obtain ⟨i, hi, hz, hz1, hz2⟩ := info_parts hi
  obtain ⟨v', w', hru, h2, h3, -, h5⟩ := run_append_own_at (P := Tryz.prog) w base t o.type e i z size bytes ht hi hz hz1 hz2 hzs hsz v n xs hown ad m c news hr.1 (hr.2.2 ad rfl) h1 h63 hbytes hbase
  unfold Oper.wp execOp
  simp only [ho, resolve, invoke, builtin, Sem.run_bind, Sem.run_pure, Result.andThen_ok, List.map_toArray, List.map_cons, List.map_nil, hs, hx, hru]
  exact h v' w' h2 h3 h5
theorem wp_mapUpdate_own {H : Type} {P : Program} (w : World) {o : Oper} {a : Act} {Q : Exit → Act → World → Prop} {KK : Act → World → Prop}
    (m x v : Operand) (t : TypeId) (hop : o.op = Op.mapUpdate t m x v)
    (k e : TypeId) (K : Keyed P k) (ht : P.underlying t = some (.map k e)) (R : Value → Option (DataW H × List MemPlace)) (b n : Nat) (D : DataW H)
    (hm : a.eval m = .map (some b)) (hown : w.ownsMap P k R b n D) (hn : n < maxLen) (key val : Value) (kl : Lit) (hx : a.eval x = key) (hv : a.eval v = val) (hkey : keyOf P k key = some kl)
    (d : DataW H) (ps : List MemPlace) (hval : R val = some (d, ps))
    (hK : ∀ w', w'.ownsMap P k R b (n + 1) (D.put kl d) → w.grownBy w' (some b) → KK (a.put o.dst undef) w') : o.wp P a w KK Q := by
  obtain ⟨w', hrun, r1, r2⟩ := hown.update K ht hn hkey hval
  unfold Oper.wp
  simp [execOp, hop, hm, hx, hv, hrun, Result.andThen]
  exact hK _ r1 r2
set_option maxRecDepth 100000 in
set_option maxHeartbeats 2000000 in
theorem Trim1_any {F : Nat → Prop} {w : World} {mb : Nat} {T : Tab} (h : TabAt F w mb T) (hF : ¬ F mb) {n : Nm} {k : Nat} (hf : ActS.Fits (.trim n k) T) (hT : T.length ≤ 4096) (hsz : tTot T ≤ 16777216)
    {a : Option Addr} {bn bc : Nat} {p q : Nat} (hp : w.cell? ⟨p, 0, none⟩ = some (.string ⟨n.toArray⟩)) (hq : w.cell? ⟨q, 0, none⟩ = some (.int .i64 (k : Int))) :
    Calls Tryz.prog 113 #[.map (some mb), .slice a bn bc, .pointer (some ⟨p, 0, none⟩), .pointer (some ⟨q, 0, none⟩)] w (ActPost F mb ((ActS.trim n k).run T) w) := by
  have hmb := h.lt
  obtain ⟨hn32, hsome, hk⟩ := hf
  have hml : n.length ≤ maxLen := by unfold maxLen; omega
  obtain ⟨v, hlook, hv⟩ := h.look n hml
  obtain ⟨H, hown, htf⟩ := h
  have hHl := htf.len
  have hol := tOld_le T n
  have hpl := World.block_lt_of_cell? w _ hp
  have hql := World.block_lt_of_cell? w _ hq
  have hpm : some p ≠ some mb := by
    obtain ⟨es, cl, h1, -⟩ := hown
    intro e; injection e with e; subst e
    simp [World.cell?, h1] at hp
  have hqm : some q ≠ some mb := by
    obtain ⟨es, cl, h1, -⟩ := hown
    intro e; injection e with e; subst e
    simp [World.cell?, h1] at hq
  rcases hv with ⟨hg, rfl⟩ | ⟨d, hg, p1, n1, c1, rfl, hd⟩
  · rw [hg] at hsome; cases hsome
  have ho : tOld T n = d := by unfold tOld; rw [hg]; rfl
  rw [ho] at hk hol
  have hrun : (ActS.trim n k).run T = tPut T n (d.take k) := by simp [ActS.run, ho]
  rw [hrun]
  obtain rfl : n1 = d.length := hd.1
  have HT := hid htf
  have HW := hid hown
  have HD := hid hd
  have HLK := hid (fun W (hW : Ext w W) => (TabAt.below ⟨H, hown, htf⟩ hW).look n hml)
  have HGT := hid hg
  have hkey := keyS n hml
  have hHn : H.length < maxLen := by unfold maxLen; omega
  have HOB := hid (fun W => ownB_made W W.heap.size (Nat.le_refl _))
  have HTL := hid (show (d.take k).length = k ∧ k ≤ 16777216 by refine ⟨by simp; omega, by omega⟩)
  clear htf hown hd hg hsome hHl hol ho hrun hlook
  go_enter Tryz.func113, Tryz.ntmps113
  go_wp2_with fail
  have y0 : w.drew.cell? ⟨p, 0, none⟩ = some (.string ⟨n.toArray⟩) ∧ w.drew.cell? ⟨q, 0, none⟩ = some (.int .i64 (k : Int)) := ⟨hp, hq⟩
  refine wp_region_held_drew (S := fun W => W.cell? ⟨p, 0, none⟩ = some (.string ⟨n.toArray⟩) ∧ W.cell? ⟨q, 0, none⟩ = some (.int .i64 (k : Int))) (by kernel_rfl) y0 (fun hH => ?_)
  obtain ⟨wd, hwd⟩ : ∃ wd, wd = w.drew := ⟨_, rfl⟩
  have hxd : Ext w wd := by rw [hwd]; exact ⟨rfl, rfl, rfl, Nat.le_refl _, fun _ _ => rfl⟩
  rw [← hwd] at y0 ⊢
  have HXD := hid hxd
  have HZD := hid (show wd.heap.size = w.heap.size by rw [hwd]; rfl)
  have HP0 := hid (And.intro hp hq)
  clear hH hwd hxd hp hq
  refine held_run (i := 0) (v := .map (some mb)) rfl (by kernel_rfl) (by kernel_rfl) (by kernel_rfl) (fun _ _ _ h => h) (by rfl) y0 (fun W hW => ?_) ?_
  · (clear hW; go_simp)
  try simp only [Act.put, List.setIfInBounds_toArray, List.set_cons_zero, List.set_cons_succ]
  refine held_run (i := 1) (v := .string ⟨n.toArray⟩) rfl (by kernel_rfl) (by kernel_rfl) (by kernel_rfl) (fun _ _ _ h => h) (by rfl) y0 (fun W hW => ?_) ?_
  · (obtain ⟨e0, e1⟩ := hW; go_simp)
  try simp only [Act.put, List.setIfInBounds_toArray, List.set_cons_zero, List.set_cons_succ]
  refine held_run (i := 3) (v := .map (some mb)) rfl (by kernel_rfl) (by kernel_rfl) (by kernel_rfl) (fun _ _ _ h => h) (by rfl) y0 (fun W hW => ?_) ?_
  · (clear hW; go_simp)
  try simp only [Act.put, List.setIfInBounds_toArray, List.set_cons_zero, List.set_cons_succ]
  refine held_run (i := 4) (v := .string ⟨n.toArray⟩) rfl (by kernel_rfl) (by kernel_rfl) (by kernel_rfl) (fun _ _ _ h => h) (by rfl) y0 (fun W hW => ?_) ?_
  · (obtain ⟨e0, e1⟩ := hW; go_simp)
  try simp only [Act.put, List.setIfInBounds_toArray, List.set_cons_zero, List.set_cons_succ]
  refine held_run (i := 6) (v := .int .i64 (k : Int)) rfl (by kernel_rfl) (by kernel_rfl) (by kernel_rfl) (fun _ _ _ h => h) (by rfl) y0 (fun W hW => ?_) ?_
  · (obtain ⟨e0, e1⟩ := hW; go_simp)
  try simp only [Act.put, List.setIfInBounds_toArray, List.set_cons_zero, List.set_cons_succ]
  refine wpAnyH_ready (rs := [2, 5]) (by kernel_rfl) (by simp) ?_
  refine held_cons2 (i := 2) (j := 5) rfl rfl (fun K hK => ?_) (fun K hK => ?_)
  · skip
    go_simp
    have x2 := ext_alloc wd (.cells #[] 5)
    have y1 := And.intro ((x2.cell (p := ⟨p, 0, none⟩) (World.block_lt_of_cell? _ _ y0.1)).trans y0.1) ((x2.cell (p := ⟨q, 0, none⟩) (World.block_lt_of_cell? _ _ y0.2)).trans y0.2)
    have HX2 := hid (HXD.out.trans' x2)
    have HO2 := hid (HOB.out wd)
    have HXE := hid x2
    have hze := x2.size
    clear x2
    refine hK.out _ _ y1 (fun hH => ?_)
    clear hK K y0 hH
    have y0 := y1
    clear y1
    try simp only [Act.put, List.setIfInBounds_toArray, List.set_cons_zero, List.set_cons_succ]
    generalize wd.alloc (.cells #[] 5) = we at *
    refine wpAnyH_ready (rs := [5]) (by kernel_rfl) (by simp) ?_
    refine held_cons (i := 5) rfl (fun K hK => ?_)
    obtain ⟨v', hl', hv'⟩ := HLK.out we HX2.out
    have hv2 : ∃ p2 n2 c2, v' = .slice (some p2) n2 c2 ∧ ByF F we (some p2) n2 c2 d := by
      rcases hv' with ⟨e, -⟩ | ⟨d2, e, p2, n2, c2, rfl, hd2⟩
      · rw [HGT.out] at e; cases e
      · rw [HGT.out] at e; injection e with e; subst e; exact ⟨p2, n2, c2, rfl, hd2⟩
    obtain ⟨p2, n2, c2, rfl, hd2⟩ := hv2
    obtain rfl : n2 = d.length := hd2.1
    obtain ⟨a', m', k', cut1, cut2, hcut⟩ := cut_h hd2 (k : Int) (by omega) (by omega)
    rw [show ((k : Int)).toNat = k from by simp] at hcut
    clear hv' hd2
    go_simp
    clear hl'
    have y1 := y0
    refine hK.out _ _ y1 (fun hH => ?_)
    clear hK K y0 hH
    have y0 := y1
    clear y1
    try simp only [Act.put, List.setIfInBounds_toArray, List.set_cons_zero, List.set_cons_succ]
    refine held_run (i := 7) (v := .slice a' m' k') rfl (by kernel_rfl) (by kernel_rfl) (by kernel_rfl) (fun _ _ _ h => h) (by rfl) y0 (fun W hW => ?_) ?_
    · (clear hW; go_simp)
    try simp only [Act.put, List.setIfInBounds_toArray, List.set_cons_zero, List.set_cons_succ]
    have HCB := hid hcut
    clear cut1 cut2 hcut
    refine wpAnyH_ready (rs := [8]) (by kernel_rfl) (by simp) ?_
    refine held_cons (i := 8) rfl (fun K hK => ?_)
    rw [if_pos (by rfl)]
    refine wp_appB (.tmp 8) (.tmp 13) rfl wd.heap.size (.slice (some ⟨wd.heap.size, 0, none⟩) 0 0) 0 [] rfl HO2.out a' m' k' _ rfl HCB.out (by have h1 := HCB.out.1; have h2 := HTL.out; omega) (by omega) ?_
    intro g4 c4 w4 hown4 hx4
    have HO4 := hid hown4
    have hxx : Ext w w4 := ⟨hx4.os.trans HX2.out.os, hx4.tape.trans HX2.out.tape, hx4.output.trans HX2.out.output, Nat.le_trans HX2.out.size hx4.size, fun q hq => (hx4.block q (by have := HXD.out.size; omega)).trans (HX2.out.block q hq)⟩
    have y1 := And.intro ((hxx.cell (p := ⟨p, 0, none⟩) hpl).trans HP0.out.1) ((hxx.cell (p := ⟨q, 0, none⟩) hql).trans HP0.out.2)
    have HX4 := hid hxx
    clear hown4 hx4 hxx
    refine hK.out _ _ y1 (fun hH => ?_)
    clear hK K y0 hH
    have y0 := y1
    clear y1
    try simp only [Act.put, List.setIfInBounds_toArray, List.set_cons_zero, List.set_cons_succ]
    refine wpAnyH_ready (rs := [9]) (by kernel_rfl) (by simp) ?_
    refine held_cons (i := 9) rfl (fun K hK => ?_)
    rw [if_pos (by rfl)]
    refine wp_mapUpdate_own _ (.tmp 6) (.tmp 7) (.tmp 14) 73 rfl 9 37 lawS Tryz.underlying73 Rh mb H.length (dat H) rfl (HW.out.kept (grown_below HX4.out none) (by simp)) hHn (.string ⟨n.toArray⟩) (.slice (some ⟨g4, 0, none⟩) (0 + m') c4) _ rfl rfl hkey _ [] rfl ?_
    intro w5 hown5 hgrow5
    rw [dat_put] at hown5
    have y1 := And.intro ((World.cell?_of_block (w := w4) (a := ⟨p, 0, none⟩) (hgrow5.block p (Nat.lt_of_lt_of_le hpl HX4.out.size) hpm)).trans y0.1) ((World.cell?_of_block (w := w4) (a := ⟨q, 0, none⟩) (hgrow5.block q (Nat.lt_of_lt_of_le hql HX4.out.size) hqm)).trans y0.2)
    refine hK.out _ _ y1 (fun hH => ?_)
    clear hK K y0 hH
    have y0 := y1
    clear y1
    try simp only [Act.put, List.setIfInBounds_toArray, List.set_cons_zero, List.set_cons_succ]
    refine wpAnyH_done (by kernel_rfl) ?_ _
    clear y0
    have hsv := HO4.out.slv (by have h1 := HTL.out; have h2 := HCB.out.1; omega)
    rw [HZD.out, List.nil_append] at hsv
    obtain ⟨r1, r2⟩ := tab_store HT.out hF HX4.out hsv hmb hown5 hgrow5
    go_wp2
    go_end0
    exact ⟨rfl, r1, r2⟩
  · skip
    obtain ⟨v', hl', hv'⟩ := HLK.out wd HXD.out
    have hv2 : ∃ p2 n2 c2, v' = .slice (some p2) n2 c2 ∧ ByF F wd (some p2) n2 c2 d := by
      rcases hv' with ⟨e, -⟩ | ⟨d2, e, p2, n2, c2, rfl, hd2⟩
      · rw [HGT.out] at e; cases e
      · rw [HGT.out] at e; injection e with e; subst e; exact ⟨p2, n2, c2, rfl, hd2⟩
    obtain ⟨p2, n2, c2, rfl, hd2⟩ := hv2
    obtain rfl : n2 = d.length := hd2.1
    obtain ⟨a', m', k', cut1, cut2, hcut⟩ := cut_h hd2 (k : Int) (by omega) (by omega)
    rw [show ((k : Int)).toNat = k from by simp] at hcut
    clear hv' hd2
    go_simp
    clear hl'
    have y1 := y0
    refine hK.out _ _ y1 (fun hH => ?_)
    clear hK K y0 hH
    have y0 := y1
    clear y1
    try simp only [Act.put, List.setIfInBounds_toArray, List.set_cons_zero, List.set_cons_succ]
    refine held_run (i := 7) (v := .slice a' m' k') rfl (by kernel_rfl) (by kernel_rfl) (by kernel_rfl) (fun _ _ _ h => h) (by rfl) y0 (fun W hW => ?_) ?_
    · (clear hW; go_simp)
    try simp only [Act.put, List.setIfInBounds_toArray, List.set_cons_zero, List.set_cons_succ]
    refine wpAnyH_ready (rs := [2]) (by kernel_rfl) (by simp) ?_
    refine held_cons (i := 2) rfl (fun K hK => ?_)
    go_simp
    have x2 := ext_alloc wd (.cells #[] 5)
    have y1 := And.intro ((x2.cell (p := ⟨p, 0, none⟩) (World.block_lt_of_cell? _ _ y0.1)).trans y0.1) ((x2.cell (p := ⟨q, 0, none⟩) (World.block_lt_of_cell? _ _ y0.2)).trans y0.2)
    have HX2 := hid (HXD.out.trans' x2)
    have HO2 := hid (HOB.out wd)
    have HXE := hid x2
    have hze := x2.size
    clear x2
    refine hK.out _ _ y1 (fun hH => ?_)
    clear hK K y0 hH
    have y0 := y1
    clear y1
    try simp only [Act.put, List.setIfInBounds_toArray, List.set_cons_zero, List.set_cons_succ]
    generalize wd.alloc (.cells #[] 5) = we at *
    have HCB := hid (hcut.below HXE.out)
    clear cut1 cut2 hcut
    refine wpAnyH_ready (rs := [8]) (by kernel_rfl) (by simp) ?_
    refine held_cons (i := 8) rfl (fun K hK => ?_)
    rw [if_pos (by rfl)]
    refine wp_appB (.tmp 8) (.tmp 13) rfl wd.heap.size (.slice (some ⟨wd.heap.size, 0, none⟩) 0 0) 0 [] rfl HO2.out a' m' k' _ rfl HCB.out (by have h1 := HCB.out.1; have h2 := HTL.out; omega) (by omega) ?_
    intro g4 c4 w4 hown4 hx4
    have HO4 := hid hown4
    have hxx : Ext w w4 := ⟨hx4.os.trans HX2.out.os, hx4.tape.trans HX2.out.tape, hx4.output.trans HX2.out.output, Nat.le_trans HX2.out.size hx4.size, fun q hq => (hx4.block q (by have := HXD.out.size; omega)).trans (HX2.out.block q hq)⟩
    have y1 := And.intro ((hxx.cell (p := ⟨p, 0, none⟩) hpl).trans HP0.out.1) ((hxx.cell (p := ⟨q, 0, none⟩) hql).trans HP0.out.2)
    have HX4 := hid hxx
    clear hown4 hx4 hxx
    refine hK.out _ _ y1 (fun hH => ?_)
    clear hK K y0 hH
    have y0 := y1
    clear y1
    try simp only [Act.put, List.setIfInBounds_toArray, List.set_cons_zero, List.set_cons_succ]
    refine wpAnyH_ready (rs := [9]) (by kernel_rfl) (by simp) ?_
    refine held_cons (i := 9) rfl (fun K hK => ?_)
    rw [if_pos (by rfl)]
    refine wp_mapUpdate_own _ (.tmp 6) (.tmp 7) (.tmp 14) 73 rfl 9 37 lawS Tryz.underlying73 Rh mb H.length (dat H) rfl (HW.out.kept (grown_below HX4.out none) (by simp)) hHn (.string ⟨n.toArray⟩) (.slice (some ⟨g4, 0, none⟩) (0 + m') c4) _ rfl rfl hkey _ [] rfl ?_
    intro w5 hown5 hgrow5
    rw [dat_put] at hown5
    have y1 := And.intro ((World.cell?_of_block (w := w4) (a := ⟨p, 0, none⟩) (hgrow5.block p (Nat.lt_of_lt_of_le hpl HX4.out.size) hpm)).trans y0.1) ((World.cell?_of_block (w := w4) (a := ⟨q, 0, none⟩) (hgrow5.block q (Nat.lt_of_lt_of_le hql HX4.out.size) hqm)).trans y0.2)
    refine hK.out _ _ y1 (fun hH => ?_)
    clear hK K y0 hH
    have y0 := y1
    clear y1
    try simp only [Act.put, List.setIfInBounds_toArray, List.set_cons_zero, List.set_cons_succ]
    refine wpAnyH_done (by kernel_rfl) ?_ _
    clear y0
    have hsv := HO4.out.slv (by have h1 := HTL.out; have h2 := HCB.out.1; omega)
    rw [HZD.out, List.nil_append] at hsv
    obtain ⟨r1, r2⟩ := tab_store HT.out hF HX4.out hsv hmb hown5 hgrow5
    go_wp2
    go_end0
    exact ⟨rfl, r1, r2⟩
end Go.Proofs.YtikjckdoldiddaaGreatDoor

/- The walks of the disk's small functions. -/
namespace Go.Proofs.YtikjckdoldiddaaGreatDoor
open Go.RowKit Go.Maps
set_option linter.unusedVariables false
set_option linter.unusedSimpArgs false
attribute [local go_sem] bmax2 bmin2 bmax_two bmin_two

theorem DiskIn.cells {D : Nat → Prop} {w : World} {g : Nat} {s : DS} {ms ml : Nat} {av : Value} {H : List AcH} (h : DiskIn D w g s ms ml av H) :
    w.cell? ⟨g, 0, none⟩ = some (.bool s.off) ∧ w.cell? ⟨g, 1, none⟩ = some (.int .i64 s.left) ∧ w.cell? ⟨g, 2, none⟩ = some (.int .i64 s.keep) ∧ w.cell? ⟨g, 3, none⟩ = some (.int .i64 s.tear) ∧ w.cell? ⟨g, 4, none⟩ = some (.int .i64 s.room) ∧
    w.cell? ⟨g, 5, none⟩ = some (.map (some ms)) ∧ w.cell? ⟨g, 6, none⟩ = some (.map (some ml)) ∧ w.cell? ⟨g, 7, none⟩ = some av ∧ (∀ i, w.frozen? ⟨g, i, none⟩ = false) ∧ g < w.heap.size := by
  have h0 := h.obj
  refine ⟨?_, ?_, ?_, ?_, ?_, ?_, ?_, ?_, fun i => ?_, h.lt g h.dg⟩
  all_goals first
    | (simp [World.cell?, h0]; done)
    | simp [World.frozen?, h0]

set_option maxHeartbeats 400000 in
theorem ready_any {w : World} {g m : Nat} {off : Bool} (h0 : w.cell? ⟨g, 0, none⟩ = some (.bool off)) (h5 : w.cell? ⟨g, 5, none⟩ = some (.map (some m))) : Calls Tryz.prog 53 #[.pointer (some ⟨g, 0, none⟩)] w fun e w' => e = .returned (.int .i64 (if off = true then 22 else 0)) ∧ w = w' := by
  have hm := fun (r : Option Nat) (W : World) => run_eql_map_nil (P := Tryz.prog) W 73 9 37 r Tryz.underlying73
  cases off
  all_goals
    go_enter Tryz.func53, Tryz.ntmps53
    go_wp2
    go_ret
    exact ⟨rfl, rfl⟩

set_option maxHeartbeats 400000 in
theorem struck_0 {w : World} {g : Nat} (h1 : w.cell? ⟨g, 1, none⟩ = some (.int .i64 0)) : Calls Tryz.prog 116 #[.pointer (some ⟨g, 0, none⟩)] w fun e w' => e = .returned (.bool false) ∧ w = w' := by
  go_enter Tryz.func116, Tryz.ntmps116
  go_wp2
  go_ret
  exact ⟨rfl, rfl⟩
set_option maxHeartbeats 400000 in
theorem struck_n {w : World} {g : Nat} {x : Int} (h1 : w.cell? ⟨g, 1, none⟩ = some (.int .i64 x)) (hf : w.frozen? ⟨g, 1, none⟩ = false) (hx0 : x ≠ 0) (hx1 : 0 ≤ x) (hx2 : x ≤ 9223372036854775807) :
    Calls Tryz.prog 116 #[.pointer (some ⟨g, 0, none⟩)] w fun e w' => e = .returned (.bool (decide (x = 1))) ∧ w' = w.setCell ⟨g, 1, none⟩ (.int .i64 (x - 1)) := by
  have hb : (x == 0) = false := by simpa using hx0
  have hg := World.block_lt_of_cell? w _ h1
  go_enter Tryz.func116, Tryz.ntmps116
  go_wp2
  go_ret
  refine ⟨?_, rfl⟩
  show Ending.returned (.bool ((x - 1 : Int) == 0)) = _
  have hd : ((x - 1 : Int) == 0) = decide (x = 1) := by rw [Bool.eq_iff_iff]; simp; omega
  rw [hd]

/-- '[]byte(s)'. -/
theorem conv_bytes (n : Nm) (W : World) (hn : n.length ≤ 140737488351232) : ∃ cap W', (convert 9 37 (.string ⟨n.toArray⟩)).run Tryz.prog W = .ok (.slice (some ⟨W.heap.size, 0, none⟩) n.length cap) W' ∧ Ext W W' ∧
    ByF (fun q => q = W.heap.size) W' (some ⟨W.heap.size, 0, none⟩) n.length cap n ∧ W'.heap.size = W.heap.size + 1 := by
  have hr := Lib.run_convert_string_bytes (P := Tryz.prog) W 9 37 5 ⟨n.toArray⟩ Tryz.underlying9 Tryz.underlying37 Tryz.underlying5
  have hs : (⟨n.toArray⟩ : ByteArray).size = n.length := by simp [ByteArray.size]
  have hz := Lib.bytesWorld_size W 5 ⟨n.toArray⟩
  rw [hs] at hr
  refine ⟨_, _, hr, ⟨?_, ?_, ?_, by rw [hz]; omega, fun k hk => Lib.bytesWorld_at_old W _ _ k hk⟩, ?_, hz⟩
  · simp [Lib.bytesWorld, World.freeze]; rfl
  · simp [Lib.bytesWorld, World.freeze]
  · simp [Lib.bytesWorld, World.freeze]; rfl
  refine ⟨rfl, grownCap_ge _ _ _ _, ⟨grownCap_le_maxLen _ _ _ _ (by unfold maxLen; omega), hn⟩, (fun e => by cases e), fun p hp => ?_⟩
  cases hp
  refine ⟨fun _ => rfl, fun k hk => ⟨rfl, ?_⟩⟩
  rw [Nat.zero_add, Lib.bytesWorld_cell W 5 ⟨n.toArray⟩ k (by rw [hs]; exact hk)]
  simp [List.getElem?_eq_getElem hk]

theorem mayS_all {n : Nm} (h1 : 1 ≤ n.length) (h2 : n.length ≤ 32) : mayS n = n.all okC := by
  unfold mayS; simp [h1, h2]
theorem okC_iff (c : UInt8) : okC c = (decide ((c.toNat : Int) = 46) || (decide (48 ≤ (c.toNat : Int)) && decide ((c.toNat : Int) ≤ 57)) || (decide (97 ≤ (c.toNat : Int)) && decide ((c.toNat : Int) ≤ 122))) := by
  unfold okC
  have e1 : decide (c = 46) = decide ((c.toNat : Int) = 46) := by
    rw [decide_eq_decide]
    constructor
    · rintro rfl; rfl
    intro h; exact UInt8.toNat_inj.1 (by show c.toNat = 46; omega)
  have e2 : decide (48 ≤ c) = decide (48 ≤ (c.toNat : Int)) := by rw [decide_eq_decide, UInt8.le_iff_toNat_le]; show 48 ≤ c.toNat ↔ _; omega
  have e3 : decide (c ≤ 57) = decide ((c.toNat : Int) ≤ 57) := by rw [decide_eq_decide, UInt8.le_iff_toNat_le]; show c.toNat ≤ 57 ↔ _; omega
  have e4 : decide (97 ≤ c) = decide (97 ≤ (c.toNat : Int)) := by rw [decide_eq_decide, UInt8.le_iff_toNat_le]; show 97 ≤ c.toNat ↔ _; omega
  have e5 : decide (c ≤ 122) = decide ((c.toNat : Int) ≤ 122) := by rw [decide_eq_decide, UInt8.le_iff_toNat_le]; show c.toNat ≤ 122 ↔ _; omega
  rw [e1, e2, e3, e4, e5]

set_option maxRecDepth 100000 in
set_option maxHeartbeats 1000000 in
theorem may_any {w : World} {b o c : Nat} {n : Nm} (h : w.cell? ⟨b, o, none⟩ = some (.string ⟨n.toArray⟩)) :
    Calls Tryz.prog 145 #[.slice (some ⟨b, o, none⟩) 1 c] w fun e w' => e = .returned (.bool (mayS n)) ∧ Ext w w' := by
  have hbl := World.block_lt_of_cell? w _ h
  by_cases hl : 1 ≤ n.length ∧ n.length ≤ 32
  · obtain ⟨hl1, hl2⟩ := hl
    go_enter Tryz.func145, Tryz.ntmps145
    go_wp2
    go_loopw [9] (fun z wr => ∃ k : Nat, k ≤ 1 ∧ z = .int .i64 k ∧ Hid (k = 1 → mayS n = true) ∧ Ext w wr) (fun z _ => 1 - (intOf z).toNat)
    case atStart => exact ⟨0, by omega, rfl, (fun h => by cases h), Below.refl _ _⟩
    obtain ⟨k, hk, rfl, HK, hx⟩ := hrel
    have h' := (hx.cell (p := ⟨b, o, none⟩) hbl).trans h
    by_cases hk0 : k = 0
    · subst hk0
      obtain ⟨cap, W', hconv, hxW, hby, hzW⟩ := conv_bytes n wr (by omega)
      have HB := hid hby
      have HXW := hid (Ext.trans' hx hxW)
      have hms := mayS_all hl1 hl2
      have HMS := hid hms
      have hr0 : wr.heap.size < W'.heap.size := by omega
      have HX := hid hx
      clear hby hxW HK hx hms hzW
      go_wp2
      go_loopw [24] (fun z wx => ∃ j : Nat, j ≤ n.length ∧ z = .int .i64 j ∧ Hid ((n.take j).all okC = true) ∧ Ext W' wx) (fun z _ => n.length - (intOf z).toNat)
      case atStart => exact ⟨0, by omega, rfl, rfl, Below.refl _ _⟩
      obtain ⟨j, hj, rfl, HJ, hxx⟩ := hrel
      by_cases hlt : j < n.length
      · obtain ⟨b1, o1, he1, -, hbl1, hjl, hc⟩ := (HB.out.below hxx).at_ hlt
        cases he1
        have hok := okC_iff n[j]
        have htk : (n.take (j + 1)).all okC = ((n.take j).all okC && okC n[j]) := by
          rw [List.take_succ_eq_append_getElem hjl, List.all_append, List.all_cons, List.all_nil, Bool.and_true]
        have hin : n.all okC = false ∨ okC n[j] = true := by
          cases h : okC n[j] with
          | true => exact .inr rfl
          | false =>
            left
            rw [List.all_eq_false]
            exact ⟨n[j], List.getElem_mem hjl, by rw [h]; simp⟩
        have hb256 : n[j].toNat < 256 := UInt8.toNat_lt _
        have HOK := hid hok
        have HTK := hid htk
        have HIN := hid hin
        clear hok htk hin
        rw [Nat.zero_add] at hc
        generalize n[j] = x at *
        have hcase : (∃ bb : Bool, ((x.toNat : Int) != 46) = bb ∧ (bb = true ↔ x.toNat ≠ 46)) := ⟨_, rfl, by rw [bne_iff_ne]; omega⟩
        obtain ⟨bb, hbb, hbi⟩ := hcase
        have HBI := hid hbi
        clear hbi
        cases bb
        all_goals
          go_wp2
          all_goals first
            | (have hxo : okC x = false := by
                 have := HBI.out
                 rw [HOK.out]; simp at this ⊢; omega
               go_ret
               have hm : mayS n = false := by
                 rw [HMS.out]
                 rcases HIN.out with h | h
                 · exact h
                 rw [hxo] at h; cases h
               rw [hm]
               exact ⟨rfl, Ext.trans' HXW.out hxx⟩)
            | (have hxo : okC x = true := by
                 have := HBI.out
                 rw [HOK.out]; simp at this ⊢; omega
               go_roundw
               case rel => exact ⟨j + 1, by omega, by go_num, by rw [HTK.out, hxo, HJ.out]; rfl, hxx⟩
               case measure => simp [intOf]; omega)
      have hjn : j = n.length := by omega
      subst hjn
      have HM := hid (show mayS n = true by rw [HMS.out]; have := HJ.out; rw [List.take_length] at this; exact this)
      clear HJ HMS
      go_wp2
      go_roundw
      case rel => exact ⟨1, by omega, by go_num, fun _ => HM.out, Ext.trans' HXW.out hxx⟩
      case measure => simp [intOf]
    have hk1 : k = 1 := by omega
    subst hk1
    have HM := hid (HK.out rfl)
    clear HK
    go_wp2
    go_ret
    rw [HM.out]
    exact ⟨rfl, hx⟩
  have hm : mayS n = false := by
    unfold mayS
    simp only [Bool.and_eq_false_iff, decide_eq_false_iff_not]
    omega
  rw [hm]
  clear hm
  go_enter Tryz.func145, Tryz.ntmps145
  go_wp2
  go_loopw [9] (fun z wr => z = .int .i64 0 ∧ Ext w wr) (fun z _ => 1 - (intOf z).toNat)
  case atStart => exact ⟨rfl, Below.refl _ _⟩
  obtain ⟨rfl, hx⟩ := hrel
  have h' := (hx.cell (p := ⟨b, o, none⟩) hbl).trans h
  have hcase : n.length < 1 ∨ 32 < n.length := by omega
  clear hl
  rcases hcase with hl | hl
  · have hl0 : n.length = 0 := by omega
    have hn : n = [] := List.eq_nil_of_length_eq_zero hl0
    subst hn
    go_wp2
    go_ret
    exact ⟨rfl, hx⟩
  have hd1 : decide ((n.length : Int) < 1) = false := by simp; omega
  go_wp2
  go_ret
  exact ⟨rfl, hx⟩
end Go.Proofs.YtikjckdoldiddaaGreatDoor

/- The walks of find and Used. -/
namespace Go.Proofs.YtikjckdoldiddaaGreatDoor
open Go.RowKit Go.Maps
set_option linter.unusedVariables false
set_option linter.unusedSimpArgs false
attribute [local go_sem] bmax2 bmin2 bmax_two bmin_two

theorem ActV.form {F : Nat → Prop} {w : World} {v : Value} {a : ActS} (h : ActV F w v a) : ∃ gf lb, v = .func (.func gf) #[] lb := by
  cases a with
  | write n k b => obtain ⟨p, q, h1, -⟩ := h; exact ⟨_, _, h1⟩
  | trim n k =>
    obtain ⟨p, q, h1, -⟩ := h; exact ⟨_, _, h1⟩
  | move o n =>
    exact h.elim
  | drop n => obtain ⟨p, h1, -⟩ := h; exact ⟨_, _, h1⟩

set_option maxRecDepth 100000 in
set_option maxHeartbeats 1000000 in
theorem find_in {D : Nat → Prop} {w : World} {g : Nat} {s : DS} {ms ml : Nat} {av : Value} {H : List AcH} (h : DiskIn D w g s ms ml av H) (n : Nm) (hn : n.length ≤ maxLen) :
    Calls Tryz.prog 110 #[.pointer (some ⟨g, 0, none⟩), .string ⟨n.toArray⟩] w fun e w' => e = .returned (.int .i64 (s.find n)) ∧ Ext w w' := by
  obtain ⟨c0, -, -, -, -, c5, -, -, -, hgl⟩ := h.cells
  have HS := hid h.seen
  unfold DS.find
  have hrd := ready_any c0 c5
  have HR := hid hrd
  clear hrd h c0
  have hx0 := ext_alloc w (.cells #[.string ⟨n.toArray⟩] 9)
  have hc0 : (w.alloc (.cells #[.string ⟨n.toArray⟩] 9)).cell? ⟨w.heap.size, 0, none⟩ = some (.string ⟨n.toArray⟩) := by unfold World.cell?; rw [heap_alloc_new]; rfl
  have hmay := may_any (c := 1) hc0
  have HM := hid hmay
  clear hc0 hmay
  cases hoff : s.off with
  | true =>
    rw [hoff] at HR
    clear hoff
    go_enter Tryz.func110, Tryz.ntmps110
    go_wp2_with (go_at_call 53; refine Calls.mono HR.out ?_; rintro e w' ⟨rfl, rfl⟩)
    go_ret
    exact ⟨rfl, Below.refl _ _⟩
  | false =>
    rw [hoff] at HR
    clear hoff
    cases hm : mayS n with
    | false =>
      rw [hm] at HM
      clear hm
      go_enter Tryz.func110, Tryz.ntmps110
      go_wp2_with (first | (go_at_call 53; refine Calls.mono HR.out ?_; rintro e w' ⟨rfl, rfl⟩) | (go_at_call 145; refine Calls.mono HM.out ?_; rintro e w1 ⟨rfl, hx1⟩))
      go_ret
      exact ⟨rfl, Ext.trans' hx0 hx1⟩
    | true =>
      rw [hm] at HM
      clear hm
      have he := fun (a : Option Addr) (k c : Nat) W => Lib.run_eql_slice_nil (P := Tryz.prog) W 37 5 a k c 0 0 Tryz.underlying37
      cases hg : tGet s.seen n with
      | none =>
        have hlk : ∀ W, Ext w W → (Instr.lookup 73 (.map (some ms)) (.string ⟨n.toArray⟩) false).run Tryz.prog W = .ok (.slice none 0 0) W := by
          intro W hW
          obtain ⟨v, h1, h2⟩ := (HS.out.below hW).look n hn
          rcases h2 with ⟨-, rfl⟩ | ⟨d, e, -⟩
          · exact h1
          rw [hg] at e; cases e
        have HL := hid hlk
        clear hlk hg
        go_enter Tryz.func110, Tryz.ntmps110
        go_wp2_with (first | (go_at_call 53; refine Calls.mono HR.out ?_; rintro e w' ⟨rfl, rfl⟩) | (go_at_call 145; refine Calls.mono HM.out ?_; rintro e w1 ⟨rfl, hx1⟩; have hx := Ext.trans' hx0 hx1; have c5' := (hx.cell (p := ⟨g, 5, none⟩) hgl).trans c5; have hl := HL.out w1 hx))
        go_ret
        exact ⟨rfl, hx⟩
      | some d =>
        have hlk : ∀ W, Ext w W → ∃ p k c, (Instr.lookup 73 (.map (some ms)) (.string ⟨n.toArray⟩) false).run Tryz.prog W = .ok (.slice (some p) k c) W := by
          intro W hW
          obtain ⟨v, h1, h2⟩ := (HS.out.below hW).look n hn
          rcases h2 with ⟨e, -⟩ | ⟨d, -, p, k, c, rfl, -⟩
          · rw [hg] at e; cases e
          exact ⟨p, k, c, h1⟩
        have HL := hid hlk
        clear hlk hg
        go_enter Tryz.func110, Tryz.ntmps110
        go_wp2_with (first | (go_at_call 53; refine Calls.mono HR.out ?_; rintro e w' ⟨rfl, rfl⟩) | (go_at_call 145; refine Calls.mono HM.out ?_; rintro e w1 ⟨rfl, hx1⟩; have hx := Ext.trans' hx0 hx1; have c5' := (hx.cell (p := ⟨g, 5, none⟩) hgl).trans c5; obtain ⟨p, k, c, hl⟩ := HL.out w1 hx))
        go_ret
        exact ⟨rfl, hx⟩

theorem aTot_take (l : List ActS) (k : Nat) (hk : k < l.length) : aTot (l.take (k + 1)) = aTot (l.take k) + l[k].data.length := by
  rw [List.take_succ_eq_append_getElem hk, aTot_append]; simp [aTot]
theorem aTot_take_le (l : List ActS) (k : Nat) : aTot (l.take k) ≤ aTot l := by
  conv => rhs; rw [← List.take_append_drop k l]
  rw [aTot_append]; omega
/-- An act's cells. -/
theorem DiskIn.act_at {D : Nat → Prop} {w : World} {g : Nat} {s : DS} {ms ml : Nat} {av : Value} {H : List AcH} (h : DiskIn D w g s ms ml av H) {k : Nat} (hk : k < H.length) :
    ∃ b c, av = .slice (some ⟨b, 0, none⟩) H.length c ∧ H.length ≤ c ∧ D b ∧ b < w.heap.size ∧ w.cell? ⟨b, k * 3, none⟩ = some H[k].f ∧ w.cell? ⟨b, k * 3 + 1, none⟩ = some (.slice H[k].a H[k].n H[k].c) ∧ w.cell? ⟨b, k * 3 + 2, none⟩ = some (.int .i64 (H[k].n : Int)) := by
  rcases h.row.2 with ⟨-, h0⟩ | ⟨b, cap, cur, rfl, hb, hg, hn, hm, hs, ht⟩
  · omega
  have hcell : ∀ i, i < 3 → w.cell? ⟨b, k * 3 + i, none⟩ = (H[k]).cells[i]? := fun i hi => by
    rw [h.row.cellAt (k * 3 + i) (by omega), rawA_get _ _ _ hi, List.getElem?_eq_getElem hk]; rfl
  exact ⟨b, cap, rfl, hn, h.dav b rfl, (Array.getElem?_eq_some_iff.1 hg).1, (hcell 0 (by omega)).trans rfl, (hcell 1 (by omega)).trans rfl, (hcell 2 (by omega)).trans rfl⟩
theorem DiskIn.av_form {D : Nat → Prop} {w : World} {g : Nat} {s : DS} {ms ml : Nat} {av : Value} {H : List AcH} (h : DiskIn D w g s ms ml av H) : ∃ a c, av = .slice a H.length c ∧ H.length ≤ c ∧ (a = none → c = 0) := by
  rcases h.row.2 with ⟨rfl, h0⟩ | ⟨b, cap, cur, rfl, hb, hg, hn, hm, hs, ht⟩
  · exact ⟨none, 0, by rw [h0], by omega, fun _ => rfl⟩
  exact ⟨_, cap, rfl, hn, fun e => by cases e⟩
theorem DiskIn.below {D : Nat → Prop} {w w' : World} {g : Nat} {s : DS} {ms ml : Nat} {av : Value} {H : List AcH} (h : DiskIn D w g s ms ml av H) (hx : Ext w w') : DiskIn D w' g s ms ml av H :=
  h.keep (fun q hq => ⟨hq, hx.block q (h.lt q hq)⟩) fun q hq => Nat.lt_of_lt_of_le (h.lt q hq) hx.size

set_option maxHeartbeats 1000000 in
theorem Used_on {D : Nat → Prop} {w : World} {g : Nat} {s : DS} {ms ml : Nat} {av : Value} {H : List AcH} (h : DiskIn D w g s ms ml av H) (hok : s.Ok) (ho : s.off = false) :
    Calls Tryz.prog 23 #[.pointer (some ⟨g, 0, none⟩)] w fun e w' => e = .returned (.int .i64 (s.used : Int)) ∧ Ext w w' := by
  obtain ⟨c0, -, -, -, -, c5, c6, c7, -, hgl⟩ := h.cells
  obtain ⟨-, -, -, hl16, ha16⟩ := hok.run
  have hlen := h.acts.len
  have hrd := ready_any c0 c5
  rw [ho] at hrd
  have htot := total_any h.last hl16
  obtain ⟨a, c, rfl, hHc, hac⟩ := h.av_form
  have hHm : H.length ≤ 9223372036854775807 := by
    rcases h.row.2 with ⟨-, h0⟩ | ⟨b, cap, cur, -, hb, hg, hn, hm, hs, ht⟩
    · omega
    unfold maxLen at hm; omega
  have HR := hid hrd
  have HT := hid htot
  have HI := hid h
  unfold DS.used
  have HLEN := hid hlen
  clear hrd htot h hlen c0 c5 hok ho
  go_enter Tryz.func23, Tryz.ntmps23
  go_wp2_with (first | (go_at_call 53; refine Calls.mono HR.out ?_; rintro e w' ⟨rfl, rfl⟩) | (go_at_call 68; refine Calls.mono HT.out ?_; rintro e w1 ⟨rfl, hx1⟩; have c7' := (hx1.cell (p := ⟨g, 7, none⟩) hgl).trans c7))
  go_loopw [3, 19] (fun x z wr => ∃ (k m : Nat), k ≤ H.length ∧ z = .int .i64 k ∧ x = .int .i64 (m : Int) ∧ Hid (m = tTot s.last + aTot (s.acts.take k)) ∧ m ≤ 40000000 ∧ Ext w wr) (fun _ z _ => H.length - (intOf z).toNat)
  case atStart => exact ⟨0, tTot s.last, Nat.zero_le _, rfl, rfl, by simp [aTot, Hid], by omega, hx1⟩
  obtain ⟨k, m, hk, rfl, rfl, HM, hm, hx⟩ := hrel
  have hsz := hx.size
  by_cases hlt : k < H.length
  · have hIw := HI.out.below hx
    obtain ⟨b, c', hv, -, -, hbl, q0, q1, q2⟩ := hIw.act_at hlt
    have hkl : k < s.acts.length := by have := HLEN.out; omega
    have hby := (hIw.acts.at_ k hlt hkl).2
    obtain ⟨gf, lb, hgf⟩ := (hIw.acts.at_ k hlt hkl).1.form
    have hnd := hby.1
    injection hv with e1 e2 e3
    subst e1; subst e3
    have htk := aTot_take s.acts k hkl
    have hle := aTot_take_le s.acts (k + 1)
    have HM2 := hid (show m + H[k].n = tTot s.last + aTot (s.acts.take (k + 1)) by have := HM.out; omega)
    have hm2 : m + H[k].n ≤ 40000000 := by have := HM2.out; omega
    generalize H[k] = x at *
    have HND := hid hnd
    clear hIw hby hnd htk hle e2
    obtain ⟨xf, xa, xn, xc⟩ := x
    dsimp only at *
    subst hgf
    go_wp2
    go_roundw
    case rel => exact ⟨k + 1, m + xn, by omega, by go_num, by go_num, HM2.out, hm2, hx.alloc hsz _⟩
    case measure => simp [intOf]; omega
  have hkn : k = H.length := by omega
  have HE := hid (show m = tTot s.last + aTot s.acts by have := HM.out; rw [List.take_of_length_le (by have := HLEN.out; omega)] at this; exact this)
  clear HM
  go_wp2
  go_ret
  refine ⟨?_, hx⟩
  rw [← HE.out]; rfl
end Go.Proofs.YtikjckdoldiddaaGreatDoor
