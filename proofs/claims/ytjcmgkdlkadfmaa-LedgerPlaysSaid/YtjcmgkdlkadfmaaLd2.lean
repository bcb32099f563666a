/- The walk of tells. -/
import Derived.Test.YtjcmgkdlkadfmaaLd1
import Derived.Test.YtjcmgkdlkadfmaaLr1
namespace Go.Proofs.Ytjcmgkdlkadfmaa
open Go.RowKit
set_option linter.unusedVariables false
set_option linter.unusedSimpArgs false
attribute [local go_sem] bmax2 bmin2 bmax_two bmin_two

/-- What is left of entries of the call's own when their bytes are turned: the row in block g with its headers, bytes behind. -/
structure LooseAt (B : Nat) (w : World) (g : Nat) (n : Nat) (hd : Nat → Option Addr × Nat × Nat) : Prop where
  big : B ≤ g
  soft : ∀ j, w.frozen? ⟨g, j, none⟩ = false
  nums : ∀ k, k < n → (∃ x, w.cell? ⟨g, k * 3, none⟩ = some (.int .i64 x)) ∧ (∃ x, w.cell? ⟨g, k * 3 + 1, none⟩ = some (.int .i64 x)) ∧ w.cell? ⟨g, k * 3 + 2, none⟩ = some (.slice (hd k).1 (hd k).2.1 (hd k).2.2)
  data : ∀ k, k < n → (hd k).2.1 ≤ 140737488351232 ∧ (hd k).2.1 ≤ (hd k).2.2 ∧ ((hd k).1 = none → (hd k).2.1 = 0) ∧ ∀ p, (hd k).1 = some p → 0 < (hd k).2.1 → p.spot = none ∧ g < p.block ∧
    (∀ j, w.frozen? ⟨p.block, j, none⟩ = false) ∧ ∀ j, j < (hd k).2.1 → ∃ u : UInt8, w.cell? ⟨p.block, p.off + j, none⟩ = some (.int .u8 (u.toNat : Int))

theorem LooseAt.of_own {B : Nat} {w : World} {g cap : Nat} {ent : TypeId} {l : List Ent} (hB : B ≤ g) (h : OwnAt w g cap ent l) : ∃ hd, LooseAt B w g l.length hd := by
  have hx : ∀ k : Nat, ∃ q : Option Addr × Nat × Nat, ∀ hk : k < l.length, w.cell? ⟨g, k * 3 + 2, none⟩ = some (.slice q.1 q.2.1 q.2.2) ∧ ByF (fun b => g < b) w q.1 q.2.1 q.2.2 l[k].d := by
    intro k
    by_cases hk : k < l.length
    · obtain ⟨-, -, -, -, a, n, c, h1, h2⟩ := h.each k hk
      exact ⟨(a, n, c), fun _ => ⟨h1, h2⟩⟩
    · exact ⟨(none, 0, 0), fun h => absurd h hk⟩
  refine ⟨fun k => Classical.choose (hx k), hB, ?_, fun k hk => ?_, fun k hk => ?_⟩
  · obtain ⟨cur, hc, -⟩ := h.row
    intro j
    simp [World.frozen?, hc]
  · obtain ⟨-, -, h0, h1, -⟩ := h.each k hk
    exact ⟨⟨_, h0⟩, ⟨_, h1⟩, (Classical.choose_spec (hx k) hk).1⟩
  · obtain ⟨hc, hb⟩ := Classical.choose_spec (hx k) hk
    generalize Classical.choose (hx k) = q at *
    have hs := h.soft k hk
    obtain ⟨h1, h2, h3, h4, h5⟩ := hb
    refine ⟨h3.2, h2, fun e => by have := h4 e; omega, fun p hp hpos => ?_⟩
    obtain ⟨h6, h7⟩ := h5 p hp
    refine ⟨h6 (by omega), (h7 0 (by omega)).1, ?_, fun j hj => ⟨l[k].d[j]'(by omega), (h7 j (by omega)).2⟩⟩
    refine (hs p q.2.1 q.2.2 ?_).2
    rw [hc, hp]

theorem LooseAt.setByte {B : Nat} {w : World} {g n : Nat} {hd : Nat → Option Addr × Nat × Nat} (h : LooseAt B w g n hd) {p : Addr} (hp : g < p.block) (u : UInt8) : LooseAt B (w.setCell p (.int .u8 (u.toNat : Int))) g n hd := by
  have hg : ∀ j, (w.setCell p (.int .u8 (u.toNat : Int))).cell? ⟨g, j, none⟩ = w.cell? ⟨g, j, none⟩ := fun j => World.cell?_setCell_other w _ _ _ (by intro e; subst e; exact Nat.lt_irrefl _ hp)
  refine ⟨h.big, fun j => by rw [World.frozen?_setCell]; exact h.soft j, fun k hk => ?_, fun k hk => ?_⟩
  · rw [hg, hg, hg]; exact h.nums k hk
  · obtain ⟨h1, h2, h3, h4⟩ := h.data k hk
    refine ⟨h1, h2, h3, fun q hq hpos => ?_⟩
    obtain ⟨h5, h6, h7, h8⟩ := h4 q hq hpos
    refine ⟨h5, h6, fun j => by rw [World.frozen?_setCell]; exact h7 j, fun j hj => ?_⟩
    by_cases e : p = ⟨q.block, q.off + j, none⟩
    · subst e
      obtain ⟨v, hv⟩ := h8 j hj
      exact ⟨u, World.cell?_setCell_same w _ _ hv⟩
    · rw [World.cell?_setCell_other w _ _ _ e]; exact h8 j hj
theorem LooseAt.setNum {B : Nat} {w : World} {g n : Nat} {hd : Nat → Option Addr × Nat × Nat} (h : LooseAt B w g n hd) {i : Nat} (j : Nat) (hj : j < 2) (x : Int) : LooseAt B (w.setCell ⟨g, i * 3 + j, none⟩ (.int .i64 x)) g n hd := by
  refine ⟨h.big, fun j => by rw [World.frozen?_setCell]; exact h.soft j, fun k hk => ?_, fun k hk => ?_⟩
  · obtain ⟨⟨x0, h0⟩, ⟨x1, h1⟩, h2⟩ := h.nums k hk
    refine ⟨?_, ?_, ?_⟩
    · by_cases e : (⟨g, i * 3 + j, none⟩ : Addr) = ⟨g, k * 3, none⟩
      · rw [e]; exact ⟨x, World.cell?_setCell_same w _ _ h0⟩
      · rw [World.cell?_setCell_other w _ _ _ e]; exact ⟨x0, h0⟩
    · by_cases e : (⟨g, i * 3 + j, none⟩ : Addr) = ⟨g, k * 3 + 1, none⟩
      · rw [e]; exact ⟨x, World.cell?_setCell_same w _ _ h1⟩
      · rw [World.cell?_setCell_other w _ _ _ e]; exact ⟨x1, h1⟩
    · rw [World.cell?_setCell_other w _ _ _ (by intro e; simp only [Addr.mk.injEq, true_and, and_true] at e; omega)]
      exact h2
  · obtain ⟨h1, h2, h3, h4⟩ := h.data k hk
    refine ⟨h1, h2, h3, fun q hq hpos => ?_⟩
    obtain ⟨h5, h6, h7, h8⟩ := h4 q hq hpos
    refine ⟨h5, h6, fun j => by rw [World.frozen?_setCell]; exact h7 j, fun j' hj' => ?_⟩
    rw [World.cell?_setCell_other w _ _ _ (by intro e; simp only [Addr.mk.injEq, true_and, and_true] at e; omega)]
    exact h8 j' hj'

theorem LooseAt.any {ent : TypeId} {B : Nat} {w : World} {a : Option Addr} {c : Nat} {l : List Ent} (h : OwnE ent B w (.slice a l.length c) l) :
    ∃ hd, (a = none → l.length = 0) ∧ ∀ p, a = some p → p.off = 0 ∧ p.spot = none ∧ LooseAt B w p.block l.length hd := by
  rcases h with ⟨h1, rfl⟩ | ⟨g, cap, h1, h2, h3⟩
  · refine ⟨fun _ => (none, 0, 0), fun _ => rfl, fun p hp => ?_⟩
    subst hp
    injection h1 with h1
    cases h1
  · injection h1 with h1 _ _
    subst h1
    obtain ⟨hd, hl⟩ := LooseAt.of_own h2 h3
    refine ⟨hd, (fun e => by cases e), fun p hp => ?_⟩
    cases hp
    exact ⟨rfl, rfl, hl⟩
theorem LooseAt.drewN {B : Nat} {w : World} {g n : Nat} {hd : Nat → Option Addr × Nat × Nat} (h : LooseAt B w g n hd) (k : Nat) : LooseAt B (w.drewN k) g n hd := ⟨h.big, h.soft, h.nums, h.data⟩

theorem xor_byte (x y : Int) : ∃ u : UInt8, bits .xor .u8 x y = (u.toNat : Int) := by
  have h : 0 ≤ bits .xor .u8 x y ∧ bits .xor .u8 x y < 256 := by
    show 0 ≤ IntKind.u8.wrap _ ∧ IntKind.u8.wrap _ < 256
    rw [IntKind.wrap_u8]
    omega
  refine ⟨UInt8.ofNat (bits .xor .u8 x y).toNat, ?_⟩
  simp
  omega

theorem from_all {s : LS} (h : s.l.length ≤ 12000) : s.from_ (s.i + 1) 12000 = s.l := by
  unfold LS.from_
  rw [if_neg (by omega)]
  have e : (s.i + 1 - s.i - 1).toNat = 0 := by omega
  rw [e, List.drop_zero, List.take_of_length_le]
  have e2 : (max 0 (12000 : Int)).toNat = 12000 := by decide
  rw [e2]
  exact h

set_option maxRecDepth 100000 in
set_option maxHeartbeats 4000000 in
theorem tells_at {F G : Nat → Prop} {w : World} {b b' : Nat} {s : LS} (h : LedAt F w b s) (h' : RefAt G w b' s) (hok : s.Ok) (hlen : s.l.length ≤ 12000) :
    Calls Try.prog 29 #[.pointer (some ⟨b, 0, none⟩), .pointer (some ⟨b', 0, none⟩)] w fun e w' => e = .returned (.bool true) ∧ Ext w w' := by
  have hB := hok.bounds
  have hbase := Base_at h
  have hlast := fun k => Last_at (h.drewN k)
  have hrl := fun k => RLast_at (h'.drewN k)
  have hfrom := fun W (hW : LedAt F W b s) => From_at hW hok (s.i + 1) 12000 ⟨by omega, by omega⟩ ⟨by omega, by omega⟩
  rw [from_all hlen] at hfrom
  obtain ⟨a', c', g0, g1, g2, -, hl', hbl'⟩ := h'.cells
  have HO := hid h
  have HO' := hid h'
  have HL' := hid hl'
  have HBA := hid hbase
  have HLA := hid hlast
  have HRL := hid hrl
  have HFR := hid hfrom
  clear hbase hlast hrl hfrom h h' hok hl'
  generalize s.lastI = z at *
  generalize s.lastT = y at *
  go_enter Try.func29, Try.ntmps29
  go_wp2_with fail
  refine (Calls.mono HBA.out) ?_
  rintro e w' ⟨rfl, k1, rfl⟩
  go_wp2_with fail
  refine (Calls.mono (HLA.out _)) ?_
  rintro e w' ⟨rfl, k2, rfl⟩
  go_wp2_with fail
  refine (Calls.mono (HRL.out _)) ?_
  rintro e w1 ⟨rfl, hx1⟩
  have hx1 : Ext w w1 := ext_of_drewN hx1
  go_wp2_with fail
  refine (Calls.mono (HFR.out _ (HO.out.below hx1))) ?_
  rintro e w2 ⟨v, rfl, hown, hx2⟩
  have hx := Ext.trans' hx1 hx2
  have g0' := (hx.cell (p := ⟨b', 0, none⟩) hbl').trans g0
  have g1' := (hx.cell (p := ⟨b', 1, none⟩) hbl').trans g1
  have g2' := (hx.cell (p := ⟨b', 2, none⟩) hbl').trans g2
  obtain ⟨a3, c3, rfl, he3⟩ := hown.es
  have HOWN := hid hown
  have hsame := fun q => Same_any (w2.drewN q) (he3.drewN q) ((HL'.out.below hx).drewN q)
  have HS := hid hsame
  have hsame0 := Same_any w2 he3 (HL'.out.below hx)
  have HS0 := hid hsame0
  have h40 := he3.2.2.1.2
  clear hsame hsame0 he3 hown HBA HLA HRL HFR
  go_wp2_with fail
  refine (Calls.mono HS0.out) ?_
  rintro e w' ⟨rfl, k3, rfl⟩
  obtain ⟨hd, hz0, hz⟩ := LooseAt.any HOWN.out
  clear HOWN HS HS0 HL' HO HO'
  generalize s.l.length = n at *
  have HZ := hid hz0
  have HZ2 := hid (fun p hp => (hz p hp).2.2.drewN k3 : ∀ p, a3 = some p → LooseAt w1.heap.size (w2.drewN k3) p.block n hd)
  have HZ3 := hid (fun p hp => ⟨(hz p hp).1, (hz p hp).2.1⟩ : ∀ p, a3 = some p → p.off = 0 ∧ p.spot = none)
  have hs1 := hx1.size
  clear hz0 hz g0 g1 g2 g0' g1' g2'
  go_wp2
  go_loopw [68] (fun z wr => ∃ k : Nat, k ≤ n ∧ z = .int .i64 k ∧ Ext w wr ∧ ∀ p, a3 = some p → LooseAt w1.heap.size wr p.block n hd) (fun z _ => n - (intOf z).toNat)
  case atStart => exact ⟨0, Nat.zero_le _, rfl, below_drewN hx _, HZ2.out⟩
  case round =>
    clear HZ2
    obtain ⟨k, hk, rfl, hb, hl⟩ := hrel
    by_cases hlt : k < n
    · cases a3 with
      | none => exact absurd (HZ.out rfl) (by omega)
      | some p =>
        obtain ⟨g, o, sp⟩ := p
        obtain ⟨e1, e2⟩ := HZ3.out _ rfl
        dsimp only at e1 e2
        subst e1; subst e2
        have hL := hl _ rfl
        dsimp only at hL
        obtain ⟨-, -, hc2⟩ := hL.nums k hlt
        obtain ⟨hd1, hd2, hd3, hd4⟩ := hL.data k hlt
        have HL := hid hL
        clear hl hL
        obtain ⟨ad, nd, cd, he⟩ : ∃ a n c, hd k = (a, n, c) := ⟨_, _, _, rfl⟩
        rw [he] at hc2 hd1 hd2 hd3 hd4
        dsimp only at hc2 hd1 hd2 hd3 hd4
        have HE := hid he
        have HD3 := hid hd3
        clear he hd4 hd3
        go_wp2
        go_loopw [77] (fun z wi => ∃ j : Nat, j ≤ nd ∧ z = .int .i64 j ∧ Ext w wi ∧ LooseAt w1.heap.size wi g n hd) (fun z _ => nd - (intOf z).toNat)
        case atStart => exact ⟨0, Nat.zero_le _, rfl, hb, HL.out⟩
        case round =>
          clear hc2 hb HL
          obtain ⟨j, hj, rfl, hbi, hLi⟩ := hrel
          obtain ⟨-, ⟨x1, hc1⟩, hc2⟩ := hLi.nums k hlt
          have hd4 := (hLi.data k hlt).2.2.2
          have hf1 := hLi.soft (k * 3 + 1)
          have hbig := hLi.big
          rw [HE.out] at hc2 hd4
          dsimp only at hc2 hd4
          have HL := hid hLi
          clear hLi
          by_cases hjl : j < nd
          · cases ad with
            | none => exact absurd (HD3.out rfl) (by omega)
            | some q =>
              obtain ⟨h5, h6, h7, h8⟩ := hd4 q rfl (by omega)
              obtain ⟨qb, qo, qs⟩ := q
              dsimp only at h5 h6 h7 h8
              subst h5
              obtain ⟨u, hu⟩ := h8 j hjl
              have hfu := h7 (qo + j)
              clear hd4 h8 h7 hf1 hc1
              obtain ⟨u', hu'⟩ := xor_byte (u.toNat : Int) 255
              have HU := hid hu'
              clear hu'
              go_wp2
              rw [HU.out]
              go_roundw
              case rel => exact ⟨j + 1, by omega, by go_num, hbi.setCell (by show w.heap.size ≤ qb; omega) _, HL.out.setByte h6 _⟩
              case measure => simp [intOf]; omega
          · clear hd4
            go_wp2
            go_roundw
            case rel => exact ⟨k + 1, by omega, by go_num, hbi.setCell (by simp; omega) _, fun p hp => by cases hp; exact HL.out.setNum 1 (by omega) _⟩
            case measure => simp [intOf]; omega
    · go_wp2
      go_ret
      exact ⟨rfl, hb⟩
end Go.Proofs.Ytjcmgkdlkadfmaa
