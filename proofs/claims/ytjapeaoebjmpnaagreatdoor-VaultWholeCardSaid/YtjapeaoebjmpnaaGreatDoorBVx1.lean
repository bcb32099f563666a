/- The walk of VaultOver. Printed by gen_vx1.py. -/
import Derived.Test.YtjapeaoebjmpnaaGreatDoorBVl9
import Derived.Test.YtjapeaoebjmpnaaGreatDoorShelf
namespace Go.Proofs.YtjapeaoebjmpnaaGreatDoor
open Go.RowKit Go.Maps
set_option linter.unusedVariables false
set_option linter.unusedSimpArgs false
attribute [local go_sem] bmax2 bmin2 bmax_two bmin_two

theorem bytesOf_u8 (l : By) : Lib.bytesOf (l.map fun b => (b.toNat : Int)) = l := by
  unfold Lib.bytesOf
  rw [List.map_map]
  conv => rhs; rw [← List.map_id l]
  exact List.map_congr_left fun x _ => by simp
theorem bytesIn {F : Nat → Prop} {w : World} {a : Option Addr} {n c : Nat} {d : By} (h : ByF F w a n c d) : Lib.BytesIn w a n (d.map fun b => (b.toNat : Int)) := fun hn => by
  obtain ⟨h1, h2, -, h4, h5⟩ := h
  cases a with
  | none => have := h4 rfl; omega
  | some p =>
    obtain ⟨h6, h7⟩ := h5 p rfl
    obtain ⟨b, o, s⟩ := p
    obtain rfl : s = none := h6 (by omega)
    refine ⟨b, o, rfl, fun i hi => ?_⟩
    have hi' : i < d.length := by omega
    rw [(h7 i hi').2]
    congr 2
    rw [List.getD_eq_getElem?_getD, List.getElem?_map, List.getElem?_eq_getElem hi']
    rfl
theorem beq_any {F G : Nat → Prop} {w : World} {a b : Option Addr} {n c m k : Nat} {d e : By} (h : ByF F w a n c d) (h2 : ByF G w b m k e) :
    Calls Tryz.prog 39 #[.slice a n c, .slice b m k] w (fun x w' => x = .returned (.bool (d == e)) ∧ w' = w) := by
  have := Tryz.bytes_Equal_all a b n c m k (d.map fun x => (x.toNat : Int)) (e.map fun x => (x.toNat : Int)) w (by rw [List.length_map]; exact h.1.symm) (by rw [List.length_map]; exact h2.1.symm) (bytesIn h) (bytesIn h2)
  simp only [bytesOf_u8] at this
  exact this
/-- The intake ahead of the piece at k. -/
def inS (s : Sn) (k : Nat) : IS := if k = 0 then ⟨0, 0, []⟩ else ⟨s.i, s.t, s.d.take k⟩
theorem inS_have {s : Sn} {k : Nat} (hk : k ≤ s.d.length) : (inS s k).have_ s.i s.t = (k : Int) := by
  unfold inS IS.have_
  by_cases h : k = 0
  · rw [if_pos h, h]
    dsimp only
    split <;> rfl
  · rw [if_neg h]
    dsimp only
    rw [if_pos ⟨rfl, rfl⟩, List.length_take, Nat.min_eq_left hk]
theorem inS_wrong {s : Sn} {k : Nat} (hk : k ≤ s.d.length) {x : Int} (h0 : x ≠ 0) (h1 : x ≠ (k : Int)) (p : By) (done : Bool) : (inS s k).take s.i s.t x p done = (([], false, 61), inS s k) := by
  refine IS.take_bad h0 (.inr (.inr ?_))
  unfold inS
  by_cases h : k = 0
  · rw [if_pos h]; exact h0
  · rw [if_neg h]
    dsimp only
    rw [List.length_take, Nat.min_eq_left hk]
    exact h1
theorem inS_set {s : Sn} {k : Nat} : (inS s k).set s.i s.t (k : Int) = ⟨s.i, s.t, s.d.take k⟩ := by
  unfold inS IS.set
  by_cases h : k = 0
  · rw [if_pos (by omega), h]; rfl
  · rw [if_neg (by omega), if_neg h]
theorem inS_take {s : Sn} {k : Nat} (hk : k ≤ s.d.length) (hl : s.d.length ≤ 70000) (done : Bool) : (inS s k).take s.i s.t (k : Int) ((s.d.drop k).take 512) done = if done = false then (([], false, 0), ⟨s.i, s.t, s.d.take (k + 512)⟩) else ((s.d.take (k + 512), true, 0), ⟨0, 0, []⟩) := by
  unfold IS.take
  rw [inS_set]
  have h1 : ¬ ((k : Int) ≠ 0 ∧ (s.i ≠ (inS s k).i ∨ s.t ≠ (inS s k).t ∨ (k : Int) ≠ (inS s k).d.length)) := by
    rintro ⟨h, h2⟩
    have h0 : ¬ k = 0 := by omega
    unfold inS at h2
    rw [if_neg h0] at h2
    dsimp only at h2
    rw [List.length_take, Nat.min_eq_left hk] at h2
    rcases h2 with h2 | h2 | h2 <;> exact h2 rfl
  rw [if_neg h1]
  dsimp only
  have h3 : ¬ (262144 - ((s.d.take k).length : Int) < (((s.d.drop k).take 512).length : Nat)) := by
    rw [List.length_take, List.length_take, List.length_drop, Nat.min_eq_left hk]
    omega
  rw [if_neg h3]
  have h4 : s.d.take k ++ (s.d.drop k).take 512 = s.d.take (k + 512) := by rw [List.take_add]
  rw [h4]
theorem piece_in {s : Sn} {d : DS} {k : Nat} (hk : k ≤ s.d.length) : pieceS ⟨s, true, d⟩ (k : Int) = ((s.d.drop k).take 512, decide ((s.d.drop k).length ≤ 512), 0) := by
  unfold pieceS
  rw [if_neg (by simp), if_neg (by dsimp only; omega)]
  simp
def SnapP (s : Sn) (w : World) (e : Ending) (w' : World) : Prop := ∃ x0 x1 x2 x3, e = .returned (.agg #[x0, x1, x2, x3]) ∧ SnV (fun q => w.heap.size ≤ q ∧ q < w'.heap.size) w' (.agg #[x0, x1, x2, x3]) s ∧ Ext w w'
theorem snap_small {F : Nat → Prop} {w : World} {v : Value} {k : Kt} (h : KtV F w v k) (hl : k.s.d.length ≤ 1000000000000) : Calls Tryz.prog 16 #[v] w (SnapP (snapS k) w) :=
  (snap_any h).mono fun e w' ⟨x0, x1, x2, x3, h1, h2, h3⟩ => ⟨x0, x1, x2, x3, h1, h2 hl, h3⟩

set_option maxRecDepth 100000 in
set_option maxHeartbeats 8000000 in
theorem VaultOver_calls {F : Nat → Prop} {w : World} {v : Value} {y : Kt} (hv : KtV F w v y) (wrong : Int) (hwr : In64 wrong) (hT : TabP w) :
    Calls Tryz.prog 9 #[v, .int .i64 wrong] w (fun e w' => e = .returned (.bool true) ∧ Ext w w') := by
  have HT := hid hT
  have HPL := hid hT.lt
  have HKV := hid (fun W (hW : Ext w W) (hl : y.s.d.length ≤ 1000000000000) => snap_small (hv.below hW) hl)
  have HA := hid (fun W (hW : Ext w W) => awake_any (hT.ext hW))
  have HBE := hid (fun W (hW : Ext w W) => begun_any (hT.ext hW) (room := 16777216) (by decide) (by decide))
  obtain ⟨ka, kn, kc, ma, mn, mc, rfl, g0, g1, g2, g3, g4, g5, g6, hvs, hdd⟩ := hv
  clear hT
  go_enter Tryz.func9, Tryz.ntmps9
  go_wp2_with fail
  have e1 := heap_alloc_new w (.cells #[.int .i64 y.op, .int .i64 y.s.i, .int .i64 y.s.t, .slice ka kn kc, .slice ma mn mc, .int .i64 y.size, .int .i64 y.n, .int .i64 y.keep, .int .i64 y.tear] 38)
  have z1 : (w.alloc (.cells #[.int .i64 y.op, .int .i64 y.s.i, .int .i64 y.s.t, .slice ka kn kc, .slice ma mn mc, .int .i64 y.size, .int .i64 y.n, .int .i64 y.keep, .int .i64 y.tear] 38)).heap.size = w.heap.size + 1 := World.size_alloc ..
  have x1 := ext_alloc w (.cells #[.int .i64 y.op, .int .i64 y.s.i, .int .i64 y.s.t, .slice ka kn kc, .slice ma mn mc, .int .i64 y.size, .int .i64 y.n, .int .i64 y.keep, .int .i64 y.tear] 38)
  generalize w.alloc (.cells #[.int .i64 y.op, .int .i64 y.s.i, .int .i64 y.s.t, .slice ka kn kc, .slice ma mn mc, .int .i64 y.size, .int .i64 y.n, .int .i64 y.keep, .int .i64 y.tear] 38) = W1 at *
  have e2 := heap_alloc_new W1 (.cells #[.int .i64 y.op, .int .i64 y.s.i, .int .i64 y.s.t, .slice ka kn kc, .slice ma mn mc, .int .i64 y.size, .int .i64 y.n, .int .i64 y.keep, .int .i64 y.tear] 38)
  have z2 : (W1.alloc (.cells #[.int .i64 y.op, .int .i64 y.s.i, .int .i64 y.s.t, .slice ka kn kc, .slice ma mn mc, .int .i64 y.size, .int .i64 y.n, .int .i64 y.keep, .int .i64 y.tear] 38)).heap.size = W1.heap.size + 1 := World.size_alloc ..
  have x2 := ext_alloc W1 (.cells #[.int .i64 y.op, .int .i64 y.s.i, .int .i64 y.s.t, .slice ka kn kc, .slice ma mn mc, .int .i64 y.size, .int .i64 y.n, .int .i64 y.keep, .int .i64 y.tear] 38)
  generalize W1.alloc (.cells #[.int .i64 y.op, .int .i64 y.s.i, .int .i64 y.s.t, .slice ka kn kc, .slice ma mn mc, .int .i64 y.size, .int .i64 y.n, .int .i64 y.keep, .int .i64 y.tear] 38) = W2 at *
  have HX2 := hid (x1.trans' x2)
  have HB := hid (fun W (hW : Ext W2 W) => ((x2.trans' hW).block w.heap.size (by omega)).trans e1)
  have hkt : KtsF (fun _ => True) W2 (some ⟨W1.heap.size, 0, none⟩) 1 1 [y] := by
    refine ⟨rfl, Nat.le_refl _, by unfold maxLen; omega, (fun e => by cases e), fun p hp => ?_⟩
    cases hp
    refine ⟨fun _ => rfl, fun k hk => ?_⟩
    have hk0 : k = 0 := by simpa using hk
    subst hk0
    obtain ⟨q0, q1, q2, q3, q4, q5, q6, q7, q8⟩ := cells9a e2
    exact ⟨trivial, ka, kn, kc, ma, mn, mc, q0, q1, q2, q3, q4, q5, q6, q7, q8, ⟨g0, g1, g2, g3, g4, g5, g6⟩, hvs.keep fun q hq hl => ⟨trivial, HX2.out.block q hl⟩, hdd.keep fun q hq hl => ⟨trivial, HX2.out.block q hl⟩⟩
  have HX1 := hid x1
  rw [z1] at hkt
  have hsh := short_any hkt
  have hz : w.heap.size < W1.heap.size := by omega
  clear e1 e2 x1 x2 z1 z2 g0 g1 g2 g3 g4 g5 g6 hvs hdd hkt
  refine Calls.mono hsh ?_
  rintro e w1 ⟨b, rfl, hb, hx1⟩
  clear hsh
  have HX := hid (HX2.out.trans' hx1)
  have HB1 := hid (HB.out w1 hx1)
  have HBX := hid (fun W (hW : Ext w1 W) => cells9a (HB.out W (hx1.trans' hW)))
  have HZ := hid hz
  clear hx1 HB HX1 HX2 hz
  cases b with
  | false =>
    clear hb
    go_wp2_with fail
    refine Calls.mono (HA.out w1 HX.out) ?_
    rintro e w2 ⟨rfl, hx2⟩
    go_wp2
    go_ret
    exact ⟨rfl, HX.out.trans' hx2⟩
  | true =>
    have hl := ((hb rfl).2 y (List.mem_singleton.2 rfl))
    have HDL := hid (show y.s.d.length ≤ 1000000000000 by omega)
    have HL70 := hid (szN_len y hl)
    clear hb hl
    obtain ⟨s, hs⟩ : ∃ s, s = snapS y := ⟨_, rfl⟩
    rw [← hs] at HL70
    have HKV2 := hid (fun W (hW : Ext w W) => HKV.out W hW HDL.out)
    rw [← hs] at HKV2
    clear hs HKV HDL
    obtain ⟨q0, q1, q2, q3, q4, q5, q6, q7, q8⟩ := HBX.out w1 (Below.refl _ _)
    go_wp2_with fail
    refine Calls.mono (HKV2.out w1 HX.out) ?_
    rintro e w2 ⟨x0, x1, x2, x3, rfl, hs2, hx2⟩
    have HXa := hid hx2
    go_wp2_with fail
    refine Calls.mono (Check_any hs2) ?_
    rintro e w3 ⟨rfl, hx3⟩
    have HX3 := hid (HXa.out.trans' hx3)
    clear hs2 hx2 hx3 q0 q1 q2 q3 q4 q5 q6 q7 q8 HXa
    by_cases hck : checkS s = 0
    · have HCK := hid hck
      rw [hck]
      clear hck
      go_wp2_with fail
      refine Calls.mono (HBE.out w3 (HX.out.trans' HX3.out)) ?_
      rintro e w4 ⟨dg, g, A, rfl, hv, hA, hx4⟩
      obtain ⟨q0, q1, q2, q3, q4, q5, q6, q7, q8⟩ := HBX.out w4 (HX3.out.trans' hx4)
      have HV4 := hid hv
      have HX4 := hid (HX3.out.trans' hx4)
      have HA4 := hid (fun q (hq : A q) => show w1.heap.size ≤ q by have := hA q hq; have := HX3.out.size; omega)
      clear hv hA hx4
      go_wp2_with fail
      refine Calls.mono (HKV2.out w4 (HX.out.trans' HX4.out)) ?_
      rintro e w5 ⟨x0, x1, x2, x3, rfl, hs5, hx5⟩
      have hsave := Save_any (HV4.out.below hx5) CalmV.new.ok (by show (0 : Nat) ≤ _; omega) hs5 (fun q hq h => by have := HV4.out.lt q h; have h1 := hq.1; omega) (HT.out.ext ((HX.out.trans' HX4.out).trans' hx5)) (fun h => by have := HA4.out _ h; have := HPL.out; have := HX.out.size; omega)
      obtain ⟨d', hse, -⟩ := CalmV.new.save HCK.out (fun h => by cases h) HL70.out
      rw [hse] at hsave
      have HSA := hid hsave
      have HX5 := hid (HX4.out.trans' hx5)
      clear hsave hse hs5 hx5 q0 q1 q2 q3 q4 q5 q6 q7 q8 HV4
      go_wp2_with fail
      refine Calls.mono HSA.out ?_
      rintro e w6 hp
      obtain ⟨hx6, hv6, hA6⟩ := SavePost.ext HX5.out HA4.out hp
      obtain ⟨rfl, -, -⟩ := hp
      obtain ⟨q0, q1, q2, q3, q4, q5, q6, q7, q8⟩ := HBX.out w6 hx6
      have HX6 := hid (HX.out.trans' hx6)
      have HV6 := hid hv6
      have HA6 := hid hA6
      clear hx6 hv6 hA6 HSA
      generalize grow A w5 w6 = A6 at *
      go_wp2_with fail
      refine Calls.mono (HKV2.out w6 HX6.out) ?_
      rintro e w7 ⟨x0, x1, x2, x3, rfl, hs7, hx7⟩
      obtain ⟨pa, pn, pc, da, dn, dc, rfl, rfl, rfl, rfl⟩ := snv_form hs7
      obtain ⟨pa', pn', pc', da', dn', dc', he, k1, k2, k3, hd7⟩ := hs7
      injection he with he
      simp only [Array.mk.injEq, List.cons.injEq, and_true, Value.slice.injEq] at he
      obtain ⟨-, -, -, rfl, rfl, rfl⟩ := he
      have HDN := hid (show dn = s.d.length from hd7.1)
      have HI := hid (show In64 s.i ∧ In64 s.t from ⟨k1, k2⟩)
      have HX7 := hid (HX6.out.trans' hx7)
      have HV7 := hid (HV6.out.below hx7)
      have HD7 := hid (hd7.more (G := fun q => q < w7.heap.size) fun q hq => hq.2)
      have HA7 := hid (fun q (hq : A6 q) => show q < w7.heap.size by have := HV6.out.lt q hq; have := hx7.size; omega)
      have hz7 : w.heap.size ≤ w7.heap.size := HX7.out.size
      clear k1 k2 k3 hd7 hx7 q0 q1 q2 q3 q4 q5 q6 q7 q8 HV6
      go_wp2
      have hw : wrap64 (wrap64 ((dn : Int) / 512) + 2) = (dn : Int) / 512 + 2 := by
        have := HDN.out; have := HL70.out
        unfold wrap64; omega
      obtain ⟨NB, hNB⟩ : ∃ NB, NB = (dn : Int) / 512 + 2 := ⟨_, rfl⟩
      rw [hw, ← hNB]
      have HNB := hid (show ∀ j : Nat, 512 * j ≤ s.d.length → (j : Int) < NB from fun j hj => by have := HDN.out; omega)
      clear hw hNB
      have e8 := heap_alloc_new w7 (.cells #[.int .i64 s.i, .int .i64 s.t, .slice pa pn pc, .slice da dn dc] 25)
      have z8 : (w7.alloc (.cells #[.int .i64 s.i, .int .i64 s.t, .slice pa pn pc, .slice da dn dc] 25)).heap.size = w7.heap.size + 1 := World.size_alloc ..
      have x8 := ext_alloc w7 (.cells #[.int .i64 s.i, .int .i64 s.t, .slice pa pn pc, .slice da dn dc] 25)
      generalize w7.alloc (.cells #[.int .i64 s.i, .int .i64 s.t, .slice pa pn pc, .slice da dn dc] 25) = w8 at *
      have e9 := heap_alloc_new w8 (.cells #[.int .i64 0, .int .i64 0, .slice none 0 0] 89)
      have z9 : (w8.alloc (.cells #[.int .i64 0, .int .i64 0, .slice none 0 0] 89)).heap.size = w8.heap.size + 1 := World.size_alloc ..
      have x9 := ext_alloc w8 (.cells #[.int .i64 0, .int .i64 0, .slice none 0 0] 89)
      generalize w8.alloc (.cells #[.int .i64 0, .int .i64 0, .slice none 0 0] 89) = w9 at *
      rw [show w8.heap.size = w7.heap.size + 1 from z8] at e9
      obtain ⟨gi, hgi⟩ : ∃ gi, gi = w7.heap.size + 1 := ⟨_, rfl⟩
      rw [← hgi] at e9
      have HGE := hid hgi
      have x79 := x8.trans' x9
      have HX9 := hid (HX7.out.trans' x79)
      have hin : InO (fun _ => False) w9 gi (inS s 0) := by
        rw [show inS s 0 = ⟨0, 0, []⟩ from if_pos rfl]
        exact ⟨none, 0, 0, e9, ⟨by decide, by decide⟩, ⟨by decide, by decide⟩, ByF.nil_ _ _⟩
      have HIN9 := hid hin
      obtain ⟨D, GL, -, hvo, -, hgl, hag, -⟩ := HV7.out
      have HVO := hid (fun W (hW : Frm (fun q => q = gi) w9 W) => (show VaO GL W g s true dg from (hvo.below x79).keep (hW.block g (by have := HA7.out g hag; omega) (by show ¬ g = gi; have := HA7.out g hag; omega)) fun q hq hl => ⟨hq, hW.block q hl (by show ¬ q = gi; have := HA7.out q (hgl q hq).1; omega)⟩))
      have HPS := hid (fun W (hW : Frm (fun q => q = gi) w9 W) => (show W.heap[w7.heap.size]? = some (.cells #[.int .i64 s.i, .int .i64 s.t, .slice pa pn pc, .slice da dn dc] 25 (0, 0)) from (hW.block w7.heap.size (by omega) (by show ¬ _ = gi; omega)).trans ((x9.block w7.heap.size (by omega)).trans e8)))
      have HSD := hid (fun W (hW : Frm (fun q => q = gi) w9 W) => (show ByF (fun _ => True) W da dn dc s.d from (HD7.out.keep fun q hq hl => ⟨hq, x79.block q hl⟩ : ByF (fun q => q < w7.heap.size) w9 da dn dc s.d).keep fun q hq hl => ⟨trivial, hW.block q hl (by show ¬ q = gi; have : q < w7.heap.size := hq; omega)⟩))
      have HXW := hid (fun W (hW : Frm (fun q => q = gi) w9 W) => (show Ext w W from ext_frm HX9.out hW fun q hq => by have : q = gi := hq; omega))
      have HGI := hid (show gi < w9.heap.size by omega)
      clear e8 z8 x8 e9 z9 x9 x79 hin hvo hgl hag HX9 HV7 HD7 HA7
      go_loopw [10, 11, 12, 13, 14, 15, 16, 17, 18, 19, 52] (fun x _ _ _ _ _ _ _ _ _ z wr => ∃ (j : Nat) (G : Nat → Prop), 512 * j ≤ s.d.length ∧ z = .int .i64 (j : Int) ∧ x = .int .i64 ((512 * j : Nat) : Int) ∧ Hid (InO G wr gi (inS s (512 * j))) ∧ Hid (∀ q, G q → q ≠ gi) ∧ Hid (Frm (fun q => q = gi) w9 wr)) (fun _ _ _ _ _ _ _ _ _ _ z _ => 1000000 - (intOf z).toNat)
      case atStart => exact ⟨0, fun _ => False, by omega, rfl, rfl, HIN9.out, hid (fun q h => h.elim), hid (Frm.refl _ _)⟩
      case round =>
        obtain ⟨j, G, hj, rfl, rfl, HIN, HG, HFR⟩ := hrel
        obtain ⟨k, hk⟩ : ∃ k, k = 512 * j := ⟨_, rfl⟩
        rw [← hk] at hj HIN ⊢
        have hlt : (j : Int) < NB := HNB.out j (by omega)
        have HK := hid hk
        have HJ := hid hj
        have hpc := Piece_any (v := ⟨s, true, d'⟩) (HVO.out wr HFR.out) (k : Int)
        rw [piece_in hj] at hpc
        have HP := hid hpc
        obtain ⟨⟨t0, t1, t2, t3⟩, -, -⟩ := cells4 (HPS.out wr HFR.out)
        clear hpc hk hj
        go_wp2_with fail
        refine Calls.mono HP.out ?_
        rintro e w10 ⟨a, n, c, rfl, hb, hx10⟩
        have HF10 := hid (HFR.out.then_ext hx10)
        have hg10 : gi < wr.heap.size := Nat.lt_of_lt_of_le HGI.out HFR.out.size
        have HPB := hid (hb.more (G := fun q => q ≠ gi) fun q hq e => by have := hq.1; omega)
        have HIN10 := hid (show InO G w10 gi (inS s k) from by
          obtain ⟨ia, im, ic, i1, i2, i3, i4⟩ := HIN.out
          exact ⟨ia, im, ic, (hx10.block gi hg10).trans i1, i2, i3, i4.below hx10⟩)
        have hhv := Have_any HIN10.out s.i s.t
        rw [inS_have HJ.out, HGE.out] at hhv
        have HHV := hid hhv
        clear hb hx10 hhv t0 t1 t2 t3 HP
        obtain ⟨⟨t0, t1, t2, t3⟩, -, -⟩ := cells4 (HPS.out w10 HF10.out)
        obtain ⟨done, hdone⟩ : ∃ done, done = decide ((s.d.drop k).length ≤ 512) := ⟨_, rfl⟩
        rw [← hdone]
        have HDO := hid hdone
        clear hdone
        go_wp2_with fail
        refine Calls.mono HHV.out ?_
        rintro e w11 ⟨rfl, hw11⟩
        subst hw11
        by_cases hwk : wrong ≠ 0 ∧ wrong ≠ (k : Int)
        · obtain ⟨hw0, hw1⟩ := hwk
          have htk := Take_any HIN10.out HG.out HPB.out (fun q hq => hq) s.i s.t wrong HI.out.1 HI.out.2 done
          rw [inS_wrong HJ.out hw0 hw1, HGE.out] at htk
          have HTK := hid htk
          have hb0 : (wrong != 0) = true := by simpa using hw0
          have hb1 : (wrong != (k : Int)) = true := by simpa using hw1
          clear hw0 hw1 htk
          go_wp2_with fail
          refine Calls.mono HTK.out ?_
          rintro e w12 ⟨a2, n2, c2, rfl, hb2, hin2, hf2⟩
          rw [← HGE.out] at hin2 hf2
          have hn2 : n2 = 0 := hb2.1
          subst hn2
          have HF12 := hid (HF10.out.trans hf2 fun q hq => .inl hq)
          have HIN12 := hid hin2
          have HPB12 := hid (HPB.out.frm hf2 fun q hq => hq)
          have hg12 : gi < w11.heap.size := Nat.lt_of_lt_of_le HGI.out HF10.out.size
          have HG12 := hid (show ∀ q, (G q ∨ (w11.heap.size ≤ q ∧ q < w12.heap.size)) → q ≠ gi from fun q hq e => by
            rcases hq with hq | hq
            · exact HG.out q hq e
            · have := hq.1; omega)
          clear hb2 hin2 hf2 HTK t0 t1 t2 t3 hg12
          obtain ⟨⟨t0, t1, t2, t3⟩, -, -⟩ := cells4 (HPS.out w12 HF12.out)
          cases done with
          | false =>
            have htk := Take_any HIN12.out HG12.out HPB12.out (fun q hq => hq) s.i s.t (k : Int) HI.out.1 HI.out.2 false
            rw [inS_take HJ.out HL70.out, if_pos rfl, HGE.out] at htk
            have HTK2 := hid htk
            have hlen := of_decide_eq_false HDO.out.symm
            rw [List.length_drop] at hlen
            clear htk
            go_wp2_with fail
            refine Calls.mono HTK2.out ?_
            rintro e w13 ⟨a3, n3, c3, rfl, hb3, hin3, hf3⟩
            rw [← HGE.out] at hin3 hf3
            have HF13 := hid (HF12.out.trans hf3 fun q hq => .inl hq)
            have HIN13 := hid hin3
            have hg13 : gi < w12.heap.size := Nat.lt_of_lt_of_le HGI.out HF12.out.size
            have hn : n = 512 := by
              have h1 := HPB12.out.1
              rw [List.length_take, List.length_drop] at h1
              omega
            have HG13 := hid (show ∀ q, (_ ∨ (w12.heap.size ≤ q ∧ q < w13.heap.size)) → q ≠ gi from fun q hq e => by
              rcases hq with hq | hq
              · exact HG12.out q hq e
              · have := hq.1; omega)
            subst hn
            have hj6 : j ≤ 1000 := by have := HK.out; have := HJ.out; have := HL70.out; omega
            have hk6 : k ≤ 70000 := by have := HJ.out; have := HL70.out; omega
            have HLE := hid (show k + 512 ≤ s.d.length by omega)
            clear hb3 hin3 hf3 HTK2 t0 t1 t2 t3
            go_wp2
            go_roundw
            case rel =>
              have hkj := HK.out
              have hj := HJ.out
              have hl7 := HL70.out
              have hle := HLE.out
              refine ⟨j + 1, _, by omega, by go_num, ?_, ?_, HG13, HF13⟩
              · refine congrArg _ ?_
                first
                  | omega
                  | (unfold wrap64; omega)
              · have h := HIN13.out
                refine hid ?_
                rw [show inS s (512 * (j + 1)) = ⟨s.i, s.t, s.d.take (k + 512)⟩ from by unfold inS; rw [if_neg (by omega), show 512 * (j + 1) = k + 512 by omega]]
                exact h
            case measure =>
              have hkj := HK.out
              have hj := HJ.out
              have hl7 := HL70.out
              simp [intOf]; omega
          | true =>
            have htk := Take_any HIN12.out HG12.out HPB12.out (fun q hq => hq) s.i s.t (k : Int) HI.out.1 HI.out.2 true
            rw [inS_take HJ.out HL70.out, if_neg (by simp), HGE.out] at htk
            have HTK2 := hid htk
            have hlen := of_decide_eq_true HDO.out.symm
            rw [List.length_drop] at hlen
            clear htk
            go_wp2_with fail
            refine Calls.mono HTK2.out ?_
            rintro e w13 ⟨a3, n3, c3, rfl, hb3, hin3, hf3⟩
            rw [← HGE.out] at hin3 hf3
            have HF13 := hid (HF12.out.trans hf3 fun q hq => .inl hq)
            have HIN13 := hid hin3
            have hg13 : gi < w12.heap.size := Nat.lt_of_lt_of_le HGI.out HF12.out.size
            have htake : s.d.take (k + 512) = s.d := List.take_of_length_le (by have := HJ.out; omega)
            rw [htake] at hb3
            have hbe := beq_any hb3 (HSD.out w13 HF13.out)
            rw [show (s.d == s.d) = true from beq_self_eq_true _] at hbe
            have HBE2 := hid hbe
            have hh2 := Have_any HIN13.out s.i s.t
            rw [show IS.have_ ⟨0, 0, []⟩ s.i s.t = 0 from by unfold IS.have_; split <;> rfl, HGE.out] at hh2
            have HH2 := hid hh2
            clear hbe hh2 hb3 hin3 hf3 HTK2 t0 t1 t2 t3 htake
            obtain ⟨⟨t0, t1, t2, t3⟩, -, -⟩ := cells4 (HPS.out w13 HF13.out)
            go_wp2_with fail
            refine Calls.mono HBE2.out ?_
            rintro e w14 ⟨rfl, hw14⟩
            subst hw14
            go_wp2_with fail
            refine Calls.mono HH2.out ?_
            rintro e w15 ⟨rfl, hw15⟩
            subst hw15
            go_wp2_with fail
            refine Calls.mono (HA.out _ (HXW.out _ HF13.out)) ?_
            rintro e w16 ⟨rfl, hx16⟩
            go_wp2
            go_ret
            exact ⟨rfl, (HXW.out _ HF13.out).trans' hx16⟩
        · by_cases hw1 : wrong = (k : Int)
          · have hb1 : (wrong != (k : Int)) = false := by simpa using hw1
            clear hwk hw1
            cases done with
            | false =>
              have htk := Take_any HIN10.out HG.out HPB.out (fun q hq => hq) s.i s.t (k : Int) HI.out.1 HI.out.2 false
              rw [inS_take HJ.out HL70.out, if_pos rfl, HGE.out] at htk
              have HTK2 := hid htk
              have hlen := of_decide_eq_false HDO.out.symm
              rw [List.length_drop] at hlen
              clear htk
              go_wp2_with fail
              refine Calls.mono HTK2.out ?_
              rintro e w13 ⟨a3, n3, c3, rfl, hb3, hin3, hf3⟩
              rw [← HGE.out] at hin3 hf3
              have HF13 := hid (HF10.out.trans hf3 fun q hq => .inl hq)
              have HIN13 := hid hin3
              have hg13 : gi < w11.heap.size := Nat.lt_of_lt_of_le HGI.out HF10.out.size
              have hn : n = 512 := by
                have h1 := HPB.out.1
                rw [List.length_take, List.length_drop] at h1
                omega
              have HG13 := hid (show ∀ q, (_ ∨ (w11.heap.size ≤ q ∧ q < w13.heap.size)) → q ≠ gi from fun q hq e => by
                rcases hq with hq | hq
                · exact HG.out q hq e
                · have := hq.1; omega)
              subst hn
              have hj6 : j ≤ 1000 := by have := HK.out; have := HJ.out; have := HL70.out; omega
              have hk6 : k ≤ 70000 := by have := HJ.out; have := HL70.out; omega
              have HLE := hid (show k + 512 ≤ s.d.length by omega)
              clear hb3 hin3 hf3 HTK2 t0 t1 t2 t3
              go_wp2
              go_roundw
              case rel =>
                have hkj := HK.out
                have hj := HJ.out
                have hl7 := HL70.out
                have hle := HLE.out
                refine ⟨j + 1, _, by omega, by go_num, ?_, ?_, HG13, HF13⟩
                · refine congrArg _ ?_
                  first
                    | omega
                    | (unfold wrap64; omega)
                · have h := HIN13.out
                  refine hid ?_
                  rw [show inS s (512 * (j + 1)) = ⟨s.i, s.t, s.d.take (k + 512)⟩ from by unfold inS; rw [if_neg (by omega), show 512 * (j + 1) = k + 512 by omega]]
                  exact h
              case measure =>
                have hkj := HK.out
                have hj := HJ.out
                have hl7 := HL70.out
                simp [intOf]; omega
            | true =>
              have htk := Take_any HIN10.out HG.out HPB.out (fun q hq => hq) s.i s.t (k : Int) HI.out.1 HI.out.2 true
              rw [inS_take HJ.out HL70.out, if_neg (by simp), HGE.out] at htk
              have HTK2 := hid htk
              have hlen := of_decide_eq_true HDO.out.symm
              rw [List.length_drop] at hlen
              clear htk
              go_wp2_with fail
              refine Calls.mono HTK2.out ?_
              rintro e w13 ⟨a3, n3, c3, rfl, hb3, hin3, hf3⟩
              rw [← HGE.out] at hin3 hf3
              have HF13 := hid (HF10.out.trans hf3 fun q hq => .inl hq)
              have HIN13 := hid hin3
              have hg13 : gi < w11.heap.size := Nat.lt_of_lt_of_le HGI.out HF10.out.size
              have htake : s.d.take (k + 512) = s.d := List.take_of_length_le (by have := HJ.out; omega)
              rw [htake] at hb3
              have hbe := beq_any hb3 (HSD.out w13 HF13.out)
              rw [show (s.d == s.d) = true from beq_self_eq_true _] at hbe
              have HBE2 := hid hbe
              have hh2 := Have_any HIN13.out s.i s.t
              rw [show IS.have_ ⟨0, 0, []⟩ s.i s.t = 0 from by unfold IS.have_; split <;> rfl, HGE.out] at hh2
              have HH2 := hid hh2
              clear hbe hh2 hb3 hin3 hf3 HTK2 t0 t1 t2 t3 htake
              obtain ⟨⟨t0, t1, t2, t3⟩, -, -⟩ := cells4 (HPS.out w13 HF13.out)
              go_wp2_with fail
              refine Calls.mono HBE2.out ?_
              rintro e w14 ⟨rfl, hw14⟩
              subst hw14
              go_wp2_with fail
              refine Calls.mono HH2.out ?_
              rintro e w15 ⟨rfl, hw15⟩
              subst hw15
              go_wp2_with fail
              refine Calls.mono (HA.out _ (HXW.out _ HF13.out)) ?_
              rintro e w16 ⟨rfl, hx16⟩
              go_wp2
              go_ret
              exact ⟨rfl, (HXW.out _ HF13.out).trans' hx16⟩
          · have hb0 : (wrong != 0) = false := by
              have : wrong = 0 := Classical.byContradiction fun h => hwk ⟨h, hw1⟩
              simpa using this
            have hb1 : (wrong != (k : Int)) = true := by simpa using hw1
            clear hwk hw1
            cases done with
            | false =>
              have htk := Take_any HIN10.out HG.out HPB.out (fun q hq => hq) s.i s.t (k : Int) HI.out.1 HI.out.2 false
              rw [inS_take HJ.out HL70.out, if_pos rfl, HGE.out] at htk
              have HTK2 := hid htk
              have hlen := of_decide_eq_false HDO.out.symm
              rw [List.length_drop] at hlen
              clear htk
              go_wp2_with fail
              refine Calls.mono HTK2.out ?_
              rintro e w13 ⟨a3, n3, c3, rfl, hb3, hin3, hf3⟩
              rw [← HGE.out] at hin3 hf3
              have HF13 := hid (HF10.out.trans hf3 fun q hq => .inl hq)
              have HIN13 := hid hin3
              have hg13 : gi < w11.heap.size := Nat.lt_of_lt_of_le HGI.out HF10.out.size
              have hn : n = 512 := by
                have h1 := HPB.out.1
                rw [List.length_take, List.length_drop] at h1
                omega
              have HG13 := hid (show ∀ q, (_ ∨ (w11.heap.size ≤ q ∧ q < w13.heap.size)) → q ≠ gi from fun q hq e => by
                rcases hq with hq | hq
                · exact HG.out q hq e
                · have := hq.1; omega)
              subst hn
              have hj6 : j ≤ 1000 := by have := HK.out; have := HJ.out; have := HL70.out; omega
              have hk6 : k ≤ 70000 := by have := HJ.out; have := HL70.out; omega
              have HLE := hid (show k + 512 ≤ s.d.length by omega)
              clear hb3 hin3 hf3 HTK2 t0 t1 t2 t3
              go_wp2
              go_roundw
              case rel =>
                have hkj := HK.out
                have hj := HJ.out
                have hl7 := HL70.out
                have hle := HLE.out
                refine ⟨j + 1, _, by omega, by go_num, ?_, ?_, HG13, HF13⟩
                · refine congrArg _ ?_
                  first
                    | omega
                    | (unfold wrap64; omega)
                · have h := HIN13.out
                  refine hid ?_
                  rw [show inS s (512 * (j + 1)) = ⟨s.i, s.t, s.d.take (k + 512)⟩ from by unfold inS; rw [if_neg (by omega), show 512 * (j + 1) = k + 512 by omega]]
                  exact h
              case measure =>
                have hkj := HK.out
                have hj := HJ.out
                have hl7 := HL70.out
                simp [intOf]; omega
            | true =>
              have htk := Take_any HIN10.out HG.out HPB.out (fun q hq => hq) s.i s.t (k : Int) HI.out.1 HI.out.2 true
              rw [inS_take HJ.out HL70.out, if_neg (by simp), HGE.out] at htk
              have HTK2 := hid htk
              have hlen := of_decide_eq_true HDO.out.symm
              rw [List.length_drop] at hlen
              clear htk
              go_wp2_with fail
              refine Calls.mono HTK2.out ?_
              rintro e w13 ⟨a3, n3, c3, rfl, hb3, hin3, hf3⟩
              rw [← HGE.out] at hin3 hf3
              have HF13 := hid (HF10.out.trans hf3 fun q hq => .inl hq)
              have HIN13 := hid hin3
              have hg13 : gi < w11.heap.size := Nat.lt_of_lt_of_le HGI.out HF10.out.size
              have htake : s.d.take (k + 512) = s.d := List.take_of_length_le (by have := HJ.out; omega)
              rw [htake] at hb3
              have hbe := beq_any hb3 (HSD.out w13 HF13.out)
              rw [show (s.d == s.d) = true from beq_self_eq_true _] at hbe
              have HBE2 := hid hbe
              have hh2 := Have_any HIN13.out s.i s.t
              rw [show IS.have_ ⟨0, 0, []⟩ s.i s.t = 0 from by unfold IS.have_; split <;> rfl, HGE.out] at hh2
              have HH2 := hid hh2
              clear hbe hh2 hb3 hin3 hf3 HTK2 t0 t1 t2 t3 htake
              obtain ⟨⟨t0, t1, t2, t3⟩, -, -⟩ := cells4 (HPS.out w13 HF13.out)
              go_wp2_with fail
              refine Calls.mono HBE2.out ?_
              rintro e w14 ⟨rfl, hw14⟩
              subst hw14
              go_wp2_with fail
              refine Calls.mono HH2.out ?_
              rintro e w15 ⟨rfl, hw15⟩
              subst hw15
              go_wp2_with fail
              refine Calls.mono (HA.out _ (HXW.out _ HF13.out)) ?_
              rintro e w16 ⟨rfl, hx16⟩
              go_wp2
              go_ret
              exact ⟨rfl, (HXW.out _ HF13.out).trans' hx16⟩
    · have hcb : (checkS s != 0) = true := by simpa using hck
      clear hck
      go_wp2_with fail
      refine Calls.mono (HA.out w3 (HX.out.trans' HX3.out)) ?_
      rintro e w4 ⟨rfl, hx4⟩
      go_wp2
      go_ret
      exact ⟨rfl, (HX.out.trans' HX3.out).trans' hx4⟩
end Go.Proofs.YtjapeaoebjmpnaaGreatDoor
