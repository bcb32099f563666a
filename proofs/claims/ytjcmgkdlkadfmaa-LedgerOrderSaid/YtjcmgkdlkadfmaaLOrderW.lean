/- The walk of the law LedgerOrder. -/
import Derived.Test.YtjcmgkdlkadfmaaLFreshW
namespace Go.Proofs.Ytjcmgkdlkadfmaa
open Go.RowKit
set_option linter.unusedVariables false
set_option linter.unusedSimpArgs false
attribute [local go_sem] bmax2 bmin2 bmax_two bmin_two

/-- Made, or not made. -/
def MadeAny (s : LS) (w : World) (e : Ending) (w' : World) : Prop :=
  ∃ p q bb, e = .returned (.tuple #[.pointer p, .pointer q, .bool bb]) ∧ (bb = true → s.Ok ∧ ∃ b, p = some ⟨b, 0, none⟩ ∧ LedAt (fun k => k ≠ b) w' b s) ∧ Ext w w'
theorem made_any {F : Nat → Prop} (i t : Int) (a : Option Addr) (n c : Nat) (l : List Ent) (w : World) (hi : In64 i) (ht : In64 t) (hl : EsF F w a n c l) :
    Calls Try.prog 15 #[baseV i t a n c] w (MadeAny ⟨i, t, l⟩ w) := by
  by_cases hok : LS.Ok ⟨i, t, l⟩
  · refine (made_ok i t a n c l w hi ht hl hok).mono ?_
    rintro e w' ⟨b, b', rfl, hled, -, -, -, -, hx⟩
    exact ⟨_, _, true, rfl, fun _ => ⟨hok, b, rfl, hled.keep rfl (fun k hk _ => ⟨hk.2.1, rfl⟩) (fun h => h rfl)⟩, hx⟩
  · refine (made_bad i t a n c l w hi hl hok).mono ?_
    rintro e w' ⟨rfl, hx⟩
    exact ⟨_, _, false, rfl, (fun h => by cases h), hx⟩

/-- s is not behind r. -/
def leS (s r : LS) : Bool := r.fresh s.lastI s.lastT
theorem leS_total (s r : LS) : leS s r = false → leS r s = true := by
  unfold leS LS.fresh
  simp only [Bool.or_eq_false_iff, Bool.or_eq_true, Bool.and_eq_true, Bool.and_eq_false_iff, decide_eq_true_eq, decide_eq_false_iff_not, beq_iff_eq, beq_eq_false_iff_ne]
  omega
theorem leS_refl (s : LS) : leS s s = true := by
  unfold leS LS.fresh
  simp
theorem leS_trans (s r q : LS) : leS s r = true → leS r q = true → leS s q = true := by
  unfold leS LS.fresh
  simp only [Bool.or_eq_true, Bool.and_eq_true, decide_eq_true_eq, beq_iff_eq]
  omega

set_option maxHeartbeats 1000000 in
theorem ord_at {F G : Nat → Prop} {w : World} {b g : Nat} {s r : LS} (h : LedAt F w b s) (h' : LedAt G w g r) :
    Calls Try.prog 18 #[.pointer (some ⟨b, 0, none⟩), .pointer (some ⟨g, 0, none⟩)] w fun e w' => e = .returned (.bool (leS s r)) ∧ ∃ k, w' = w.drewN k := by
  have hl := Last_at h
  have hf := fun k => Fresh_at (h'.drewN k) s.lastI s.lastT
  have HL := hid hl
  have HF := hid hf
  clear hl hf h h'
  unfold leS
  generalize s.lastI = x at *
  generalize s.lastT = y at *
  go_enter Try.func18, Try.ntmps18
  go_wp2_with fail
  refine (Calls.mono HL.out) ?_
  rintro e w' ⟨rfl, k, rfl⟩
  go_wp2_with fail
  refine (Calls.mono (HF.out k)) ?_
  rintro e w' ⟨rfl, k', rfl⟩
  go_wp2
  go_ret
  exact ⟨rfl, by first | exact ⟨_, rfl⟩ | exact ⟨_, World.drewN_drewN _ _ _⟩⟩

theorem LLsF.three {F G H : Nat → Prop} {w : World} {a1 a2 a3 : Option Addr} {n1 c1 n2 c2 n3 c3 : Nat} {l1 l2 l3 : List Ent} (t : TypeId) (h1 : EsF F w a1 n1 c1 l1) (h2 : EsF G w a2 n2 c2 l2) (h3 : EsF H w a3 n3 c3 l3) {q : Nat} (hq : q = w.heap.size) :
    LLsF (fun _ => True) (w.alloc (.cells #[.slice a1 n1 c1, .slice a2 n2 c2, .slice a3 n3 c3] t)) (some ⟨q, 0, none⟩) 3 [l1, l2, l3] := by
  subst hq
  refine ⟨rfl, by decide, (fun e => by cases e), fun p hp => ?_⟩
  cases hp
  refine ⟨rfl, fun k hk => ?_⟩
  match k, hk with
  | 0, _ => exact ⟨a1, n1, c1, by unfold World.cell?; rw [heap_alloc_new]; rfl, (h1.below (ext_alloc _ _)).more fun _ _ => trivial⟩
  | 1, _ => exact ⟨a2, n2, c2, by unfold World.cell?; rw [heap_alloc_new]; rfl, (h2.below (ext_alloc _ _)).more fun _ _ => trivial⟩
  | 2, _ => exact ⟨a3, n3, c3, by unfold World.cell?; rw [heap_alloc_new]; rfl, (h3.below (ext_alloc _ _)).more fun _ _ => trivial⟩

set_option maxRecDepth 100000 in
set_option maxHeartbeats 4000000 in
theorem LedgerOrder_calls {F G H : Nat → Prop} (i1 t1 : Int) (a1 : Option Addr) (n1 c1 : Nat) (l1 : List Ent) (i2 t2 : Int) (a2 : Option Addr) (n2 c2 : Nat) (l2 : List Ent) (i3 t3 : Int) (a3 : Option Addr) (n3 c3 : Nat) (l3 : List Ent) (w : World)
    (hi1 : In64 i1) (ht1 : In64 t1) (hl1 : EsF F w a1 n1 c1 l1) (hi2 : In64 i2) (ht2 : In64 t2) (hl2 : EsF G w a2 n2 c2 l2) (hi3 : In64 i3) (ht3 : In64 t3) (hl3 : EsF H w a3 n3 c3 l3) :
    Calls Try.prog 4 #[baseV i1 t1 a1 n1 c1, baseV i2 t2 a2 n2 c2, baseV i3 t3 a3 n3 c3] w fun e w' => e = .returned (.bool true) ∧ Ext w w' := by
  have H1 := hid hl1
  have H2 := hid hl2
  have H3 := hid hl3
  have I1 := hid hi1
  have T1 := hid ht1
  have I2 := hid hi2
  have T2 := hid ht2
  have I3 := hid hi3
  have T3 := hid ht3
  clear hl1 hl2 hl3 hi1 hi2 hi3 ht1 ht2 ht3
  go_enter Try.func4, Try.ntmps4
  go_wp2_with fail
  have hx0 : Ext w (((w.alloc (.cells #[.int .i64 i1, .int .i64 t1, .slice a1 n1 c1] 24)).alloc (.cells #[.int .i64 i2, .int .i64 t2, .slice a2 n2 c2] 24)).alloc (.cells #[.int .i64 i3, .int .i64 t3, .slice a3 n3 c3] 24)) :=
    Ext.trans' (Ext.trans' (ext_alloc _ _) (ext_alloc _ _)) (ext_alloc _ _)
  refine (light_any (fun _ => True) _ _ _ [l1, l2, l3] _ (by exact LLsF.three _ (H1.out.below hx0) (H2.out.below hx0) (H3.out.below hx0) (by simp))).mono ?_
  rintro e w1 ⟨bb, rfl, -, rfl⟩
  have hx1 := Ext.trans' hx0 (ext_alloc _ (.cells #[.slice a1 n1 c1, .slice a2 n2 c2, .slice a3 n3 c3] 22))
  cases bb with
  | false =>
    go_wp2_with fail
    refine (awake_any _).mono ?_
    rintro e w2 ⟨rfl, hb2⟩
    go_wp2
    go_ret
    exact ⟨rfl, Ext.trans' hx1 hb2⟩
  | true =>
    go_wp2_with fail
    refine (made_any i1 t1 a1 n1 c1 l1 _ I1.out T1.out (by exact H1.out.below hx1)).mono ?_
    rintro e w2 ⟨p1, q1, b1, rfl, m1, hx2⟩
    have X2 := hid (Ext.trans' hx1 hx2)
    have Y2 := hid hx2
    have M1 := hid m1
    clear hx0 hx1 m1
    have d0 : ((((w.alloc (.cells #[.int .i64 i1, .int .i64 t1, .slice a1 n1 c1] 24)).alloc (.cells #[.int .i64 i2, .int .i64 t2, .slice a2 n2 c2] 24)).alloc (.cells #[.int .i64 i3, .int .i64 t3, .slice a3 n3 c3] 24)).alloc (.cells #[.slice a1 n1 c1, .slice a2 n2 c2, .slice a3 n3 c3] 22)).heap[w.heap.size + 1]? = some (.cells #[.int .i64 i2, .int .i64 t2, .slice a2 n2 c2] 24 (0, 0)) := by
      rw [Below.heap_alloc _ _ _ (by first | (simp; done) | (simp; omega)), Below.heap_alloc _ _ _ (by first | (simp; done) | (simp; omega))]
      have := heap_alloc_new (w.alloc (.cells #[.int .i64 i1, .int .i64 t1, .slice a1 n1 c1] 24)) (.cells #[.int .i64 i2, .int .i64 t2, .slice a2 n2 c2] 24)
      simpa using this
    have d1 : ((((w.alloc (.cells #[.int .i64 i1, .int .i64 t1, .slice a1 n1 c1] 24)).alloc (.cells #[.int .i64 i2, .int .i64 t2, .slice a2 n2 c2] 24)).alloc (.cells #[.int .i64 i3, .int .i64 t3, .slice a3 n3 c3] 24)).alloc (.cells #[.slice a1 n1 c1, .slice a2 n2 c2, .slice a3 n3 c3] 22)).heap[w.heap.size + 1 + 1]? = some (.cells #[.int .i64 i3, .int .i64 t3, .slice a3 n3 c3] 24 (0, 0)) := by
      rw [Below.heap_alloc _ _ _ (by first | (simp; done) | (simp; omega))]
      have := heap_alloc_new ((w.alloc (.cells #[.int .i64 i1, .int .i64 t1, .slice a1 n1 c1] 24)).alloc (.cells #[.int .i64 i2, .int .i64 t2, .slice a2 n2 c2] 24)) (.cells #[.int .i64 i3, .int .i64 t3, .slice a3 n3 c3] 24)
      simpa using this
    have e0 := (hx2.block (w.heap.size + 1) (by first | (simp; done) | (simp; omega))).trans d0
    have e1 := (hx2.block (w.heap.size + 1 + 1) (by first | (simp; done) | (simp; omega))).trans d1
    have hs2 : w.heap.size + 1 + 1 < w2.heap.size := by have := hx2.size; simp at this; omega
    clear hx2 d0 d1
    have f0 : w2.cell? ⟨w.heap.size + 1, 0, none⟩ = some (.int .i64 i2) := by simp [World.cell?, e0]
    have f1 : w2.cell? ⟨w.heap.size + 1, 1, none⟩ = some (.int .i64 t2) := by simp [World.cell?, e0]
    have f2 : w2.cell? ⟨w.heap.size + 1, 2, none⟩ = some (.slice a2 n2 c2) := by simp [World.cell?, e0]
    go_wp2_with fail
    refine (made_any i2 t2 a2 n2 c2 l2 _ I2.out T2.out (by exact H2.out.below X2.out)).mono ?_
    rintro e w3 ⟨p2, q2, b2, rfl, m2, hx3⟩
    have e2 := (hx3.block (w.heap.size + 1 + 1) hs2).trans e1
    have X3 := hid (Ext.trans' X2.out hx3)
    have Y3 := hid hx3
    have M2 := hid m2
    clear m2 f0 f1 f2 e0 e1 hx3
    have f0 : w3.cell? ⟨w.heap.size + 1 + 1, 0, none⟩ = some (.int .i64 i3) := by simp [World.cell?, e2]
    have f1 : w3.cell? ⟨w.heap.size + 1 + 1, 1, none⟩ = some (.int .i64 t3) := by simp [World.cell?, e2]
    have f2 : w3.cell? ⟨w.heap.size + 1 + 1, 2, none⟩ = some (.slice a3 n3 c3) := by simp [World.cell?, e2]
    go_wp2_with fail
    refine (made_any i3 t3 a3 n3 c3 l3 _ I3.out T3.out (by exact H3.out.below X3.out)).mono ?_
    rintro e w4 ⟨p3, q3, b3, rfl, m3, hx4⟩
    have X4 := hid (Ext.trans' X3.out hx4)
    have Y4 := hid hx4
    have M3 := hid m3
    clear m3 f0 f1 f2 e2 hs2 hx4
    by_cases hall : b1 = true ∧ b2 = true ∧ b3 = true
    · obtain ⟨rfl, rfl, rfl⟩ := hall
      obtain ⟨-, g1, rfl, L1⟩ := M1.out rfl
      obtain ⟨-, g2, rfl, L2⟩ := M2.out rfl
      obtain ⟨-, g3, rfl, L3⟩ := M3.out rfl
      have L1 := hid ((L1.below Y3.out).below Y4.out)
      have L2 := hid (L2.below Y4.out)
      have L3 := hid L3
      clear M1 M2 M3
      generalize (⟨i1, t1, l1⟩ : LS) = s1 at *
      generalize (⟨i2, t2, l2⟩ : LS) = s2 at *
      generalize (⟨i3, t3, l3⟩ : LS) = s3 at *
      have o12 := ord_at L1.out L2.out
      have o12' := fun k => ord_at (L1.out.drewN k) (L2.out.drewN k)
      have o21 := fun k => ord_at (L2.out.drewN k) (L1.out.drewN k)
      have o11 := fun k => ord_at (L1.out.drewN k) (L1.out.drewN k)
      have o23 := fun k => ord_at (L2.out.drewN k) (L3.out.drewN k)
      have o13 := fun k => ord_at (L1.out.drewN k) (L3.out.drewN k)
      rw [leS_refl] at o11
      have htot := leS_total s1 s2
      have htr := leS_trans s1 s2 s3
      generalize leS s1 s2 = x12 at *
      generalize leS s2 s1 = x21 at *
      generalize leS s2 s3 = x23 at *
      generalize leS s1 s3 = x13 at *
      have O12 := hid o12
      have O12' := hid o12'
      have O21 := hid o21
      have O11 := hid o11
      have O23 := hid o23
      have O13 := hid o13
      clear o12 o12' o21 o11 o23 o13
      cases x12 with
      | false =>
        obtain rfl := htot rfl
        clear htot htr
        go_wp2_with fail
        refine (Calls.mono O12.out) ?_
        rintro e w' ⟨rfl, k1, rfl⟩
        go_wp2_with fail
        refine (Calls.mono (O21.out _)) ?_
        rintro e w' ⟨rfl, k2, rfl⟩
        go_wp2_with fail
        refine (Calls.mono (O11.out _)) ?_
        rintro e w' ⟨rfl, k3, rfl⟩
        go_wp2_with fail
        refine (Calls.mono (O12'.out _)) ?_
        rintro e w' ⟨rfl, k4, rfl⟩
        go_wp2_with fail
        refine (awake_any _).mono ?_
        rintro e w5 ⟨rfl, hb5⟩
        go_wp2
        go_ret
        exact ⟨rfl, Ext.trans' X4.out (ext_of_drewN hb5)⟩
      | true =>
        clear htot
        go_wp2_with fail
        refine (Calls.mono O12.out) ?_
        rintro e w' ⟨rfl, k1, rfl⟩
        go_wp2_with fail
        refine (Calls.mono (O11.out _)) ?_
        rintro e w' ⟨rfl, k3, rfl⟩
        go_wp2_with fail
        refine (Calls.mono (O12'.out _)) ?_
        rintro e w' ⟨rfl, k4, rfl⟩
        cases x23 with
        | false =>
          clear htr
          go_wp2_with fail
          refine (Calls.mono (O23.out _)) ?_
          rintro e w' ⟨rfl, k5, rfl⟩
          go_wp2_with fail
          refine (awake_any _).mono ?_
          rintro e w5 ⟨rfl, hb5⟩
          go_wp2
          go_ret
          exact ⟨rfl, Ext.trans' X4.out (ext_of_drewN hb5)⟩
        | true =>
          obtain rfl : x13 = true := by simpa using htr
          clear htr
          go_wp2_with fail
          refine (Calls.mono (O23.out _)) ?_
          rintro e w' ⟨rfl, k5, rfl⟩
          go_wp2_with fail
          refine (Calls.mono (O13.out _)) ?_
          rintro e w' ⟨rfl, k6, rfl⟩
          go_wp2_with fail
          refine (awake_any _).mono ?_
          rintro e w5 ⟨rfl, hb5⟩
          go_wp2
          go_ret
          exact ⟨rfl, Ext.trans' X4.out (ext_of_drewN hb5)⟩
    · clear M1 M2 M3 H1 H2 H3
      cases b1 <;> cases b2 <;> cases b3
      all_goals first
        | (exact absurd ⟨rfl, rfl, rfl⟩ hall)
        | (clear hall
           go_wp2_with fail
           refine (awake_any _).mono ?_
           rintro e w5 ⟨rfl, hb5⟩
           go_wp2
           go_ret
           exact ⟨rfl, Ext.trans' X4.out hb5⟩)
end Go.Proofs.Ytjcmgkdlkadfmaa
