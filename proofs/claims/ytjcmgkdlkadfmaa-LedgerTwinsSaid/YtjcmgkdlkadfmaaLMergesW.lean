/- The walk of the law LedgerMerges. -/
import Derived.Test.YtjcmgkdlkadfmaaLmany
namespace Go.Proofs.Ytjcmgkdlkadfmaa
open Go.RowKit
set_option linter.unusedVariables false
set_option linter.unusedSimpArgs false
attribute [local go_sem] bmax2 bmin2 bmax_two bmin_two

theorem OwnE.lt {ent : TypeId} {B : Nat} {w : World} {a : Option Addr} {n c : Nat} {l : List Ent} (h : OwnE ent B w (.slice a n c) l) : ∀ p, a = some p → p.block < w.heap.size := by
  intro p hp
  subst hp
  rcases h with ⟨h, -⟩ | ⟨g, cap, h, -, h2⟩
  · cases h
  · cases h
    obtain ⟨cur, h3, -⟩ := h2.row
    exact (Array.getElem?_eq_some_iff.1 h3).1
theorem LooseAt.below {B : Nat} {w w' : World} {g n : Nat} {hd : Nat → Option Addr × Nat × Nat} (h : LooseAt B w g n hd) (hg : g < w.heap.size) (hx : Ext w w') : LooseAt B w' g n hd := by
  refine ⟨h.big, fun j => (hx.frozen (p := ⟨g, j, none⟩) hg).trans (h.soft j), fun k hk => ?_, fun k hk => ?_⟩
  · obtain ⟨⟨x, h0⟩, ⟨y, h1⟩, h2⟩ := h.nums k hk
    exact ⟨⟨x, (hx.cell (p := ⟨g, k * 3, none⟩) hg).trans h0⟩, ⟨y, (hx.cell (p := ⟨g, k * 3 + 1, none⟩) hg).trans h1⟩, (hx.cell (p := ⟨g, k * 3 + 2, none⟩) hg).trans h2⟩
  · obtain ⟨h0, h1, h2, h3⟩ := h.data k hk
    refine ⟨h0, h1, h2, fun p hp hpos => ?_⟩
    obtain ⟨h4, h5, h6, h7⟩ := h3 p hp hpos
    obtain ⟨u, hu⟩ := h7 0 hpos
    have hpl : p.block < w.heap.size := World.block_lt_of_cell? w ⟨p.block, p.off + 0, none⟩ hu
    refine ⟨h4, h5, fun j => (hx.frozen (p := ⟨p.block, j, none⟩) hpl).trans (h6 j), fun j hj => ?_⟩
    obtain ⟨u, hu⟩ := h7 j hj
    exact ⟨u, (hx.cell (p := ⟨p.block, p.off + j, none⟩) hpl).trans hu⟩

set_option maxRecDepth 100000 in
set_option maxHeartbeats 20000000 in
theorem LedgerMerges_calls {F G : Nat → Prop} (i t : Int) (a : Option Addr) (n c : Nat) (l : List Ent) (x y : Int) (a' : Option Addr) (n' c' : Nat) (l' : List Ent) (w : World) (hi : In64 i) (ht : In64 t) (hl : EsF F w a n c l)
    (hx : In64 x) (hy : In64 y) (hl' : EsF G w a' n' c' l') :
    Calls Try.prog 7 #[baseV i t a n c, .int .i64 x, .int .i64 y, .slice a' n' c'] w fun e w' => e = .returned (.bool true) ∧ Ext w w' := by
  have HL := hid hl
  have HI := hid hi
  have HT := hid ht
  have HX := hid hx
  have HY := hid hy
  have HK := hid hl'
  clear hl hi ht hx hy hl'
  go_enter Try.func7, Try.ntmps7
  go_wp2_with fail
  refine (light_any (fun _ => True) _ _ _ [l, l'] _ (by exact LLsF.two _ (HL.out.below (ext_alloc _ _)) (HK.out.below (ext_alloc _ _)) (by simp))).mono ?_
  rintro e w1 ⟨bb, rfl, hbb, hw1⟩
  have hx1 : Ext w ((w.alloc (.cells #[.int .i64 i, .int .i64 t, .slice a n c] 24)).alloc (.cells #[.slice a n c, .slice a' n' c'] 22)) := Ext.trans' (ext_alloc _ _) (ext_alloc _ _)
  rw [hw1] at hx1
  have HBB := hid hbb
  clear hbb
  cases bb with
  | false =>
    clear hw1
    go_wp2_with fail
    refine (awake_any _).mono ?_
    rintro e w2 ⟨rfl, hb2⟩
    go_wp2
    go_ret
    exact ⟨rfl, Ext.trans' hx1 hb2⟩
  | true =>
    have hlen : l.length ≤ 12000 := by have := HBB.out rfl l (by simp); omega
    have HK1 := hid (HK.out.below hx1)
    subst hw1
    go_wp2_with fail
    by_cases hok : LS.Ok ⟨i, t, l⟩
    · refine (made_ok i t a n c l _ HI.out HT.out (by exact HL.out.below hx1) hok).mono ?_
      rintro e w2 ⟨b, b', rfl, hled, href, -, -, -, hx2⟩
      have HL2 := hid hled
      have HR2 := hid href
      have HOK := hid hok
      have X2 := Ext.trans' hx1 hx2
      have HK2 := hid (HK1.out.below hx2)
      clear hled href hx1 hx2 HBB
      go_wp2_with fail
      have hm := Merge_any HL2.out HOK.out x y HX.out HK2.out
      have hrm : ∀ (R : Nat → Prop) W, RefAt R W b' ⟨i, t, l⟩ → EsF G W a' n' c' l' → _ := fun R W (h1 : RefAt R W b' ⟨i, t, l⟩) (h2 : EsF G W a' n' c' l') => RMerge_any h1 HOK.out x y HX.out h2
      obtain ⟨r, hr⟩ : ∃ r, r = LS.merge ⟨i, t, l⟩ x y l' := ⟨_, rfl⟩
      rw [← hr] at hm
      simp only [← hr] at hrm
      obtain ⟨r0, r, rb⟩ := r
      have HRM := hid hrm
      clear hrm hr
      refine hm.mono ?_
      rintro e w3 ⟨v, rfl, hown, hx3⟩
      obtain ⟨a3, c3, rfl, he3⟩ := hown.es
      dsimp only at he3 hown ⊢
      have hrm := HRM.out _ _ (HR2.out.below hx3) (HK2.out.below hx3)
      have HO3 := hid hown
      have HE3 := hid he3
      have HX3 := hid hx3
      have HRM3 := hid hrm
      clear hown he3 hx3 HRM hrm
      go_wp2_with fail
      refine Calls.mono HRM3.out ?_
      rintro e w4 ⟨a4, c4, rfl, he4, hx4⟩
      have hsame := Same_any _ (HE3.out.below hx4) he4
      have HS := hid hsame
      have X4 := hid hx4
      clear hsame he4 hx4 HRM3
      dsimp only
      go_wp2_with fail
      refine Calls.mono HS.out ?_
      rintro e w' ⟨rfl, k5, rfl⟩
      have X24 := Ext.trans' HX3.out X4.out
      go_wp2_with fail
      refine (tells_at ((HL2.out.below X24).drewN _) ((HR2.out.below X24).drewN _) HOK.out hlen).mono ?_
      rintro e w5 ⟨rfl, hx5⟩
      have hx5 := ext_of_drewN hx5
      have X25 := Ext.trans' X24 hx5
      obtain ⟨hd, hz0, hz⟩ := LooseAt.any HO3.out
      have hlt3 := HO3.out.lt
      have h40 := HE3.out.2.2.1.2
      have HZ := hid hz0
      have HZ2 := hid (fun p hp => (hz p hp).2.2.below (hlt3 p hp) (Ext.trans' X4.out hx5) : ∀ p, a3 = some p → LooseAt w2.heap.size w5 p.block r.length hd)
      have HZ3 := hid (fun p hp => ⟨(hz p hp).1, (hz p hp).2.1⟩ : ∀ p, a3 = some p → p.off = 0 ∧ p.spot = none)
      clear hz0 hz hlt3 HO3 HE3 HS X4 hx5 X24 HX3
      generalize r.length = m at *
      go_wp2
      go_loopw [74] (fun z wr => ∃ k : Nat, k ≤ m ∧ z = .int .i64 k ∧ Ext w2 wr ∧ ∀ p, a3 = some p → LooseAt w2.heap.size wr p.block m hd) (fun z _ => m - (intOf z).toNat)
      case atStart => exact ⟨0, Nat.zero_le _, rfl, X25, HZ2.out⟩
      case round =>
        clear HZ2 X25
        obtain ⟨k, hk, rfl, hb, hl⟩ := hrel
        by_cases hlt : k < m
        · cases a3 with
          | none => exact absurd (HZ.out rfl) (by omega)
          | some p =>
            obtain ⟨g, o, sp⟩ := p
            obtain ⟨e1, e2⟩ := HZ3.out _ rfl
            dsimp only at e1 e2
            subst e1; subst e2
            have hL := hl _ rfl
            dsimp only at hL
            obtain ⟨-, -, hc2⟩ := hL.nums k hlt
            obtain ⟨hd1, hd2, hd3, hd4⟩ := hL.data k hlt
            have HLL := hid hL
            clear hl hL
            obtain ⟨ad, nd, cd, he⟩ : ∃ a n c, hd k = (a, n, c) := ⟨_, _, _, rfl⟩
            rw [he] at hc2 hd1 hd2 hd3 hd4
            dsimp only at hc2 hd1 hd2 hd3 hd4
            have HE := hid he
            have HD3 := hid hd3
            clear he hd4 hd3
            go_wp2
            go_loopw [83] (fun z wi => ∃ j : Nat, j ≤ nd ∧ z = .int .i64 j ∧ Ext w2 wi ∧ LooseAt w2.heap.size wi g m hd) (fun z _ => nd - (intOf z).toNat)
            case atStart => exact ⟨0, Nat.zero_le _, rfl, hb, HLL.out⟩
            case round =>
              clear hc2 hb HLL
              obtain ⟨j, hj, rfl, hbi, hLi⟩ := hrel
              obtain ⟨⟨x1, hc1⟩, -, hc2⟩ := hLi.nums k hlt
              have hd4 := (hLi.data k hlt).2.2.2
              have hf1 := hLi.soft (k * 3)
              have hbig := hLi.big
              rw [HE.out] at hc2 hd4
              dsimp only at hc2 hd4
              have HLL := hid hLi
              clear hLi
              by_cases hjl : j < nd
              · cases ad with
                | none => exact absurd (HD3.out rfl) (by omega)
                | some q =>
                  obtain ⟨h5, h6, h7, h8⟩ := hd4 q rfl (by omega)
                  obtain ⟨qb, qo, qs⟩ := q
                  dsimp only at h5 h6 h7 h8
                  subst h5
                  obtain ⟨u, hu⟩ := h8 j hjl
                  have hfu := h7 (qo + j)
                  clear hd4 h8 h7 hf1 hc1
                  obtain ⟨u', hu'⟩ := xor_byte (u.toNat : Int) 255
                  have HU := hid hu'
                  clear hu'
                  go_wp2
                  rw [HU.out]
                  go_roundw
                  case rel => exact ⟨j + 1, by omega, by go_num, hbi.setCell (by show w2.heap.size ≤ qb; omega) _, HLL.out.setByte h6 _⟩
                  case measure => simp [intOf]; omega
              · clear hd4
                go_wp2
                go_roundw
                case rel => exact ⟨k + 1, by omega, by go_num, hbi.setCell (by show w2.heap.size ≤ g; omega) _, fun p hp => by cases hp; exact HLL.out.setNum 0 (by omega) _⟩
                case measure => simp [intOf]; omega
        · have HLR := hid (HL2.out.below hb)
          have HRR := hid (HR2.out.below hb)
          go_wp2_with fail
          refine (tells_at HLR.out HRR.out HOK.out hlen).mono ?_
          rintro e w6 ⟨rfl, hx6⟩
          go_wp2_with fail
          refine (awake_any _).mono ?_
          rintro e w7 ⟨rfl, hx7⟩
          go_wp2
          go_ret
          exact ⟨rfl, Ext.trans' X2 (Ext.trans' hb (Ext.trans' hx6 hx7))⟩
    · refine (made_bad i t a n c l _ HI.out (by exact HL.out.below hx1) hok).mono ?_
      rintro e w2 ⟨rfl, hx2⟩
      go_wp2_with fail
      refine (awake_any _).mono ?_
      rintro e w3 ⟨rfl, hb3⟩
      go_wp2
      go_ret
      exact ⟨rfl, Ext.trans' hx1 (Ext.trans' hx2 hb3)⟩
end Go.Proofs.Ytjcmgkdlkadfmaa
