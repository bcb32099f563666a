/- The walks of the reference's snap and Name. -/
import Derived.Test.YtjapeaoebjmpnaaGreatDoorB37
import Derived.Test.YtjapeaoebjmpnaaGreatDoorB27
namespace Go.Proofs.YtjapeaoebjmpnaaGreatDoor
open Go.RowKit Go.Maps
set_option linter.unusedVariables false
set_option linter.unusedSimpArgs false
attribute [local go_sem] bmax2 bmin2 bmax_two bmin_two

theorem accB_lin : ∀ (l : By) (x : Nat), accB x l = x * 10 ^ l.length + accB 0 l := by
  intro l
  induction l with
  | nil => intro x; simp [accB]
  | cons c l ih =>
    intro x
    show accB (10 * x + (c.toNat - 48)) l = _ + accB (10 * 0 + (c.toNat - 48)) l
    rw [ih (10 * x + (c.toNat - 48)), ih (10 * 0 + (c.toNat - 48)), List.length_cons, Nat.pow_succ]
    have h : (10 * x + (c.toNat - 48)) * 10 ^ l.length = x * (10 ^ l.length * 10) + (c.toNat - 48) * 10 ^ l.length := by rw [Nat.add_mul, Nat.mul_comm 10 x, Nat.mul_assoc, Nat.mul_comm 10 (10 ^ l.length)]
    rw [h, Nat.mul_zero, Nat.zero_add]
    omega
/-- The lowest digits. -/
def lowD : Nat → Nat → By
  | 0, _ => []
  | j + 1, n => UInt8.ofNat (48 + (n / 10 ^ j) % 10) :: lowD j n
theorem lowD_len : ∀ j n, (lowD j n).length = j := by
  intro j
  induction j with
  | zero => intro n; rfl
  | succ j ih => intro n; show (lowD j n).length + 1 = _; rw [ih]
theorem lowD_dig : ∀ j n, digB (lowD j n) := by
  intro j
  induction j with
  | zero => intro n c h; cases h
  | succ j ih =>
    intro n c h
    rcases List.mem_cons.1 h with rfl | h
    · rw [digit_nat (by omega)]; omega
    exact ih n c h
theorem lowD_val : ∀ j n, accB 0 (lowD j n) = n % 10 ^ j := by
  intro j
  induction j with
  | zero => intro n; show 0 = _; simp [Nat.mod_one]
  | succ j ih =>
    intro n
    show accB (10 * 0 + ((UInt8.ofNat (48 + (n / 10 ^ j) % 10)).toNat - 48)) (lowD j n) = _
    rw [accB_lin, lowD_len, ih, digit_nat (by omega), Nat.pow_succ, Nat.mod_mul]
    rw [show 10 * 0 + (48 + n / 10 ^ j % 10 - 48) = n / 10 ^ j % 10 by omega, Nat.mul_comm]
    omega
theorem dig_eq {a b : By} (hl : a.length = b.length) (ha : digB a) (hb : digB b) (h : accB 0 a = accB 0 b) : a = b := by
  by_cases e : a = b
  · exact e
  cases hx : bytesBefore a b with
  | true => have := accB_bb a b 0 hl ha hb hx; omega
  | false => have := accB_bb b a 0 hl.symm hb ha (bb_total e hx); omega
theorem nameB_low {n : Nat} (h : n ≤ 1099511627776) : nameB (n : Int) = preS ++ lowD 13 n := by
  have h0 : (0 : Int) ≤ (n : Int) := by omega
  have hl := nameB_len h0 (by omega : (n : Int) ≤ 1099511627776)
  have hv := nameB_val h0
  rw [nameB_split]
  congr 1
  refine dig_eq (by rw [List.length_drop, hl, lowD_len]) (nameB_dig h0) (lowD_dig 13 n) ?_
  rw [lowD_val]
  have : accB 0 ((nameB (n : Int)).drop 5) = n := by
    change (valB _ : Int) = _ at hv
    unfold valB at hv
    unfold accB
    omega
  rw [this]
  have p : (10 : Nat) ^ 13 = 10000000000000 := by decide
  omega
set_option maxRecDepth 100000 in
set_option maxHeartbeats 4000000 in
theorem RNm_any (w : World) {n : Nat} (hn : n ≤ 1099511627776) :
    Calls Tryz.prog 75 #[.int .i64 (n : Int)] w (fun e w' => e = .returned (.string ⟨(nameB (n : Int)).toArray⟩) ∧ Ext w w') := by
  have HNL := hid (nameB_low hn)
  have HN := hid hn
  go_enter Tryz.func75, Tryz.ntmps75
  go_wp2
  go_loopw [0, 3, 4] (fun x v z wr => ∃ (j m : Nat), j ≤ 13 ∧ z = .int .i64 (j : Int) ∧ x = .int .i64 (m : Int) ∧ Hid (m = n / 10 ^ j) ∧ m ≤ 1099511627776 ∧ v = .string ⟨(lowD j n).toArray⟩ ∧ Hid (Ext w wr)) (fun _ _ z _ => 13 - (intOf z).toNat)
  case atStart => exact ⟨0, n, by omega, rfl, rfl, hid (by simp), hn, rfl, Below.refl _ _⟩
  obtain ⟨j, m, hj, rfl, rfl, HM, hm, rfl, HX⟩ := hrel
  by_cases hlt : j < 13
  · obtain ⟨d, hd⟩ : ∃ d, d = m % 10 := ⟨_, rfl⟩
    have hdl : d < 10 := by omega
    have e1 : (m : Int) % 10 = (d : Int) := by omega
    have e2 : IntKind.u8.wrap (48 + (d : Int)) = 48 + (d : Int) := by rw [IntKind.wrap_u8]; omega
    obtain ⟨q, hq⟩ : ∃ q, q = m / 10 := ⟨_, rfl⟩
    have e3 : (m : Int) / 10 = (q : Int) := by omega
    obtain ⟨c, hc⟩ : ∃ c, c = UInt8.ofNat (48 + d) := ⟨_, rfl⟩
    have hct : (c.toNat : Int) = 48 + (d : Int) := by rw [hc, digit_nat hdl]; omega
    have hcv := conv_str (by_one wr c 5)
    rw [hct] at hcv
    have hlow : lowD (j + 1) n = c :: lowD j n := by
      show UInt8.ofNat (48 + (n / 10 ^ j) % 10) :: _ = _
      rw [← HM.out, ← hd, ← hc]
    have HLOW := hid hlow
    have HQ := hid (show q = n / 10 ^ (j + 1) by rw [hq, HM.out, Nat.div_div_eq_div_mul, Nat.pow_succ])
    have hql : q ≤ 1099511627776 := by omega
    have HX1 := hid (HX.out.trans' (ext_alloc wr (.cells #[.int .u8 (48 + (d : Int))] 5)))
    clear hd hq hc hct hlow HM
    have hll : ¬ 9223372036854775807 < 1 + (lowD j n).length := by rw [lowD_len]; omega
    go_wp2
    go_roundw
    case rel => exact ⟨j + 1, q, by omega, by go_num, rfl, HQ.out, hql, by rw [HLOW.out]; rfl, HX1.out⟩
    case measure => simp [intOf]; omega
  have hj13 : j = 13 := by omega
  subst hj13
  have hll : (lowD 13 n).length = 13 := lowD_len 13 n
  obtain ⟨dd, hdd⟩ : ∃ dd, dd = lowD 13 n := ⟨_, rfl⟩
  rw [← hdd] at hll HNL ⊢
  clear hlt hdd HM
  go_wp2
  go_ret
  exact ⟨by rw [HNL.out]; rfl, HX.out⟩
/-- Does a name begin so? -/
theorem isSnap_take (f : Nm) : isSnap f = (decide (5 ≤ f.length) && (f.take 5 == preS)) := by
  have h1 : isSnap f = true ↔ (decide (5 ≤ f.length) && (f.take 5 == preS)) = true := by
    unfold isSnap
    rw [List.isPrefixOf_iff_prefix, List.prefix_iff_eq_take, Bool.and_eq_true, decide_eq_true_eq, beq_iff_eq]
    have hp : preS.length = 5 := rfl
    rw [hp]
    constructor
    · intro h
      have h2 := congrArg List.length h
      rw [hp, List.length_take] at h2
      exact ⟨by omega, h.symm⟩
    intro h; exact h.2.symm
  cases h2 : isSnap f with
  | true => exact (h1.1 h2).symm
  | false =>
    cases h3 : (decide (5 ≤ f.length) && (f.take 5 == preS)) with
    | false => rfl
    | true => rw [h1.2 h3] at h2; cases h2
theorem extract_take (f : Nm) (k : Nat) : ((⟨f.toArray⟩ : ByteArray).extract 0 k).toList = f.take k := by
  rw [ByteArray.toList_eq]
  simp
set_option maxRecDepth 100000 in
set_option maxHeartbeats 4000000 in
theorem RSn_any (w : World) (f : Nm) (hf : f.length ≤ maxLen) :
    Calls Tryz.prog 74 #[.string ⟨f.toArray⟩] w (fun e w' => e = .returned (.bool (isSnap f)) ∧ w' = w) := by
  rw [isSnap_take]
  have hf63 : f.length ≤ 9223372036854775807 := by unfold maxLen at hf; omega
  clear hf
  by_cases h5 : 5 ≤ f.length
  · have h5i : (5 : Int) ≤ (f.length : Int) := by omega
    go_enter Tryz.func74, Tryz.ntmps74
    have hx := extract_take f 5
    go_wp2
    go_ret
    exact ⟨by simp [h5, hx, preS], rfl⟩
  have h5i : ¬ (5 : Int) ≤ (f.length : Int) := by omega
  go_enter Tryz.func74, Tryz.ntmps74
  go_wp2
  go_ret
  exact ⟨by simp [h5], rfl⟩
end Go.Proofs.YtjapeaoebjmpnaaGreatDoor

/- The walks of the reference's Parts and File. Printed by gen_rx2.py. -/
namespace Go.Proofs.YtjapeaoebjmpnaaGreatDoor
open Go.RowKit Go.Maps
set_option linter.unusedVariables false
set_option linter.unusedSimpArgs false
attribute [local go_sem] bmax2 bmin2 bmax_two bmin_two

/-- As OwnR; the rows' bytes lie behind B too. -/
def OwnRL (B : Nat) (w : World) (v : Value) (L : List By) : Prop :=
  ∃ H : List Value, H.length = L.length ∧ w.ownsRow B 23 1 v H.length H ∧
    ∀ k (h1 : k < H.length) (h2 : k < L.length), ∃ a n c, H[k] = .slice a n c ∧ ByF (fun q => B ≤ q ∧ v.ownBlock ≠ some q) w a n c L[k]
theorem OwnRL.keep {B : Nat} {w w' : World} {v : Value} {L : List By} (h : OwnRL B w v L) (hk : ∀ q, q < w.heap.size → w'.heap[q]? = w.heap[q]?) : OwnRL B w' v L := by
  obtain ⟨H, h1, h2, h3⟩ := h
  refine ⟨H, h1, own_keep h2 fun q hq => hk q (own_cells h2 hq).1, fun k k1 k2 => ?_⟩
  obtain ⟨a, n, c, e, hb⟩ := h3 k k1 k2
  exact ⟨a, n, c, e, hb.keep fun q hq hl => ⟨hq, hk q hl⟩⟩
theorem OwnRL.ext {B : Nat} {w w' : World} {v : Value} {L : List By} (h : OwnRL B w v L) (hx : Ext w w') : OwnRL B w' v L := h.keep hx.block
theorem OwnRL.nil_ (B : Nat) (w : World) : OwnRL B w (.slice none 0 0) [] := ⟨[], rfl, World.ownsRow_nil _ _ _ _, fun k h1 => by cases h1⟩
theorem OwnRL.form {B : Nat} {w : World} {v : Value} {L : List By} (h : OwnRL B w v L) : (v = .slice none 0 0 ∧ L = []) ∨ ∃ g c, v = .slice (some ⟨g, 0, none⟩) L.length c ∧ B ≤ g ∧ g < w.heap.size := by
  obtain ⟨H, h1, h2, h3⟩ := h
  rcases h2.2 with ⟨e1, e2⟩ | ⟨g, c, cur, e1, e2, e3, -⟩
  · exact .inl ⟨e1, List.eq_nil_of_length_eq_zero (h1.symm.trans e2)⟩
  exact .inr ⟨g, c, by rw [e1, h1], e2, (Array.getElem?_eq_some_iff.1 e3).1⟩
theorem OwnRL.slice_ {B : Nat} {w : World} {v : Value} {L : List By} (h : OwnRL B w v L) : ∃ a n c, v = .slice a n c := by
  rcases h.form with ⟨e1, -⟩ | ⟨g1, c1, e1, -⟩
  · exact ⟨_, _, _, e1⟩
  exact ⟨_, _, _, e1⟩
/-- As a row to read. -/
theorem OwnRL.bs {B : Nat} {w : World} {a : Option Addr} {n c : Nat} {L : List By} (h : OwnRL B w (.slice a n c) L) (hL : L.length ≤ 1000000000000) : BsF (fun q => B ≤ q) w a n c L := by
  obtain ⟨H, h1, h2, h3⟩ := h
  obtain ⟨e0, e1 | ⟨g, cap, cur, e1, e2, e3, e4, e5, e6, e7⟩⟩ := h2
  · obtain ⟨e1, e2⟩ := e1
    injection e1 with i1 i2 i3
    subst i1; subst i2; subst i3
    exact ⟨by omega, Nat.le_refl _, ⟨by unfold maxLen; omega, by omega⟩, fun _ => rfl, fun p hp => by cases hp⟩
  injection e1 with i1 i2 i3
  subst i1; subst i2; subst i3
  refine ⟨h1, e4, ⟨e5, by omega⟩, (fun e => by cases e), fun p hp => ?_⟩
  cases hp
  refine ⟨fun _ => rfl, fun k hk => ⟨e2, ?_⟩⟩
  obtain ⟨a', n', c', q1, q2⟩ := h3 k (by omega) hk
  refine ⟨a', n', c', ?_, q2.more fun _ hq => hq.1⟩
  rw [← q1]
  have hq := congrArg (fun l => l[k]?) e7
  simp only [List.getElem?_take, Nat.mul_one] at hq
  rw [if_pos (by omega), List.getElem?_eq_getElem (by omega : k < H.length)] at hq
  unfold World.cell?
  simp only [e3, Nat.zero_add]
  simpa [Array.getElem?_toList] using hq

/-- One more. -/
theorem wpList_appRL {w : World} {ops : Array Oper} {rest : List Oper} {o : Oper} {a : Act} {Q : Exit → Act → World → Prop} (hgd : o.guard = none) (s x : Operand)
    (ho : o.op = .call { callee := .builtin .append, args := #[s, x], argTypes := #[129, 129] })
    (B : Nat) (v : Value) (L : List By) (hs : a.eval s = v) (hown : OwnRL B w v L) (g : Nat) (hx : a.eval x = .slice (some ⟨g, 0, none⟩) 1 1) (A : Option Addr) (n c : Nat) (d : By)
    (hc : w.cell? ⟨g, 0, none⟩ = some (.slice A n c)) (hd : ByF (fun q => B ≤ q ∧ v.ownBlock ≠ some q) w A n c d) (hlen : L.length ≤ 1000000000000) (hB : B ≤ w.heap.size)
    (h : ∀ v' w', OwnRL B w' v' (L ++ [d]) → Below B w w' → wpList Tryz.prog ops Q rest (a.put o.dst v') w') : wpList Tryz.prog ops Q (o :: rest) a w := by
  obtain ⟨H, h1, h2, h3⟩ := hown
  obtain ⟨i, hi, hz, hz1, hz2⟩ := info_parts info_sl
  refine wpList_append_own_at w hgd s x 129 ho B 23 i (.slice none 0 0) 1 24 Tryz.underlying129 hi hz hz1 hz2 rfl (by decide) v H.length H hs h2 ⟨g, 0, none⟩ 1 1 [.slice A n c] hx rfl
    (fun j u hu => by
      cases j with
      | zero => have hu := Option.some.inj hu; subst hu; exact hc
      | succ j => cases (show (none : Option Value) = some u from hu)) (fun u hu => by rw [List.mem_singleton] at hu; subst hu; rfl) (by unfold maxLen; omega) (by omega) hB fun v' w' q1 q2 q3 q4 => ?_
  have hbel : Below B w w' := (Below.refl _ _).grown q2 hB fun q hq => by
    rcases h2.2 with ⟨e1, -⟩ | ⟨g1, c1, cur, e1, e2, -⟩
    · rw [e1] at hq; cases hq
    rw [e1] at hq; injection hq with hq; subst hq; exact e2
  have hkeep : ∀ {A : Option Addr} {n c : Nat} {d : By}, ByF (fun q => B ≤ q ∧ v.ownBlock ≠ some q) w A n c d → ByF (fun q => B ≤ q ∧ v'.ownBlock ≠ some q) w' A n c d := fun hb => hb.keep fun q hq hl => by
    refine ⟨⟨hq.1, ?_⟩, q2.block q hl fun e => hq.2 e.symm⟩
    rcases q4 with e | e
    · rw [e]; exact hq.2
    rw [e]; intro e2; injection e2 with e2; omega
  refine h v' w' ⟨H ++ [.slice A n c], by simp [h1], by rw [List.length_append]; exact q1, fun k k1 k2 => ?_⟩ hbel
  by_cases hk : k < H.length
  · obtain ⟨a', n', c', p1, p2⟩ := h3 k hk (by omega)
    refine ⟨a', n', c', by rw [List.getElem_append_left hk]; exact p1, ?_⟩
    rw [List.getElem_append_left (by omega : k < L.length)]
    exact hkeep p2
  have hkL : k = L.length := by simp at k2; omega
  subst hkL
  refine ⟨A, n, c, by simp [h1], ?_⟩
  simpa using hkeep hd

/-- A row of one that was laid just now. -/
theorem OwnRL.one_ {B : Nat} {w : World} {a : Option Addr} {n c : Nat} {d : By} (h : ByF (fun q => B ≤ q) w a n c d) (hB : B ≤ w.heap.size) :
    OwnRL B (w.alloc (.cells #[.slice a n c] 23)) (.slice (some ⟨w.heap.size, 0, none⟩) 1 1) [d] := by
  refine ⟨[.slice a n c], rfl, ⟨rfl, .inr ⟨w.heap.size, 1, _, rfl, hB, heap_alloc_new w _, Nat.le_refl _, by unfold maxLen; omega, rfl, rfl⟩⟩, fun k k1 k2 => ?_⟩
  have hk : k = 0 := by simp at k1; omega
  subst hk
  refine ⟨a, n, c, rfl, ?_⟩
  have hlt : ByF (fun q => B ≤ q ∧ q < w.heap.size) w a n c d := h.keep fun q hq hl => ⟨⟨hq, hl⟩, rfl⟩
  exact (hlt.below (ext_alloc w _)).more fun q hq => ⟨hq.1, by
    intro e
    injection e with e
    have e := (show w.heap.size = q from e)
    have := hq.2
    omega⟩
def RPartsPost (L : List By) (w : World) (e : Ending) (w' : World) : Prop := ∃ a n c, e = .returned (.slice a n c) ∧ OwnRL w.heap.size w' (.slice a n c) L ∧ Ext w w'
theorem chunks_len (d : By) : (chunksB d).length = (d.length + 511) / 512 := by unfold chunksB; rw [List.length_map, List.length_range]
theorem parts_take {d : By} {k : Nat} (hk : k < (d.length + 511) / 512) : (chunksB d).take (k + 1) = (chunksB d).take k ++ [chunkB d k] := by
  have h1 : k < (chunksB d).length := by rw [chunks_len]; exact hk
  rw [List.take_succ_eq_append_getElem h1]
  congr 2
  simp only [chunksB, List.getElem_map, List.getElem_range]
set_option maxRecDepth 100000 in
set_option maxHeartbeats 8000000 in
theorem RParts_any {F : Nat → Prop} {w : World} {v : Value} {s : Sn} (h : SnV F w v s) (hvs : s.vs.length ≤ 7) (hdl : s.d.length ≤ 262144) :
    Calls Tryz.prog 81 #[v] w (RPartsPost (partsB s) w) := by
  obtain ⟨va, vn, vc, da, dn, dc, rfl, hi, ht, hv, hd⟩ := h
  obtain ⟨i, t, vs, d⟩ := s
  dsimp only at *
  have hx1 := ext_alloc w (.cells #[.int .i64 i, .int .i64 t, .slice va vn vc, .slice da dn dc] 25)
  have hn1 := heap_alloc_new w (.cells #[.int .i64 i, .int .i64 t, .slice va vn vc, .slice da dn dc] 25)
  have hz1 : w.heap.size < (w.alloc (.cells #[.int .i64 i, .int .i64 t, .slice va vn vc, .slice da dn dc] 25)).heap.size := by simp
  have hvl := hv.1
  have hdn := hd.1
  have HV := hid hv
  have HD := hid hd
  have HX1 := hid hx1
  have HC := hid (fun W (hW : Ext (w.alloc (.cells #[.int .i64 i, .int .i64 t, .slice va vn vc, .slice da dn dc] 25)) W) => (cells4 ((hW.block w.heap.size hz1).trans hn1)).1)
  have HI := hid (show In64 i ∧ In64 t from ⟨hi, ht⟩)
  have HVL := hid (show vn = vs.length ∧ vs.length ≤ 7 from ⟨hvl, hvs⟩)
  have HDN := hid (show dn = d.length from hdn)
  have hvn7 : vn ≤ 7 := by omega
  have hdn18 : dn ≤ 262144 := by omega
  obtain ⟨L, hL⟩ : ∃ L, L = partsB ⟨i, t, vs, d⟩ := ⟨_, rfl⟩
  rw [← hL]
  have HL := hid (show L = recB (numS i ++ numS t ++ numS (vs.length : Int) ++ (vs.map numS).flatten ++ numS (d.length : Int)) :: (chunksB d).map recB by rw [hL]; rfl)
  clear hx1 hn1 hz1 hvl hdn hv hd hi ht hvs hdl hL
  go_enter Tryz.func81, Tryz.ntmps81
  go_wp2
  generalize w.alloc (.cells #[.int .i64 i, .int .i64 t, .slice va vn vc, .slice da dn dc] 25) = wc at *
  have y0 : Ext wc wc.drew := ext_drew wc
  refine wp_region_held_drew (S := fun W => Ext wc W) (by kernel_rfl) y0 (fun hH => ?_)
  clear hH
  obtain ⟨wd, hwd⟩ : ∃ wd, wd = wc.drew := ⟨_, rfl⟩
  rw [← hwd] at y0 ⊢
  clear hwd
  refine hr_ 0 (.pointer (some ⟨w.heap.size, 0, none⟩)) rfl y0 (fun W hW => ?_) ?_
  · (clear hW; go_simp)
  try simp only [Act.put, sA_, s0_, sS_]
  refine hr_ 1 (.int .i64 i) rfl y0 (fun W hW => ?_) ?_
  · (obtain ⟨c0, c1, c2, c3⟩ := HC.out W hW; clear hW; go_simp)
  try simp only [Act.put, sA_, s0_, sS_]
  refine hr_ 3 (.pointer (some ⟨w.heap.size, 1, none⟩)) rfl y0 (fun W hW => ?_) ?_
  · (clear hW; go_simp)
  try simp only [Act.put, sA_, s0_, sS_]
  refine hr_ 4 (.int .i64 t) rfl y0 (fun W hW => ?_) ?_
  · (obtain ⟨c0, c1, c2, c3⟩ := HC.out W hW; clear hW; go_simp)
  try simp only [Act.put, sA_, s0_, sS_]
  refine hc_ 2 rfl (fun K hK => ?_)
  go_simp
  go_at_call 106
  refine Calls.mono (RNumber_any (ByF.nil_ (fun _ => True) wd) (by omega) i HI.out.1) ?_
  rintro e w2 ⟨g2, c2, rfl, hown2, hx2⟩
  have y1 := y0.trans' hx2
  rw [List.nil_append] at hown2 ⊢
  obtain ⟨b2, hb2⟩ : ∃ b2, b2 = numS i := ⟨_, rfl⟩
  rw [← hb2] at hown2 ⊢
  have hbl2 : b2.length ≤ 9 := by rw [hb2]; exact (numB_len _).2
  have HE2 := hid hb2
  have HB2 := hid (hown2.any (by omega))
  clear hown2 hx2 hb2
  go_wp2_with fail
  refine hK.out _ _ y1 (fun hH => ?_)
  clear hK K y0 hH
  have y0 := y1
  clear y1
  try simp only [Act.put, sA_, s0_, sS_]
  refine hc_ 5 rfl (fun K hK => ?_)
  go_simp
  go_at_call 106
  refine Calls.mono (RNumber_any HB2.out (by omega) t HI.out.2) ?_
  rintro e w3 ⟨g3, c3, rfl, hown3, hx3⟩
  have y1 := y0.trans' hx3
  obtain ⟨b3, hb3⟩ : ∃ b3, b3 = b2 ++ numS t := ⟨_, rfl⟩
  rw [← hb3] at hown3 ⊢
  have hbl3 : b3.length ≤ 18 := by rw [hb3, List.length_append]; have := (numB_len (max t 0).toNat).2; show b2.length + (numB _).length ≤ _; omega
  have HE3 := hid hb3
  have HB3 := hid (hown3.any (by omega))
  clear hown3 hx3 hb3
  go_wp2_with fail
  refine hK.out _ _ y1 (fun hH => ?_)
  clear hK K y0 hH
  have y0 := y1
  clear y1
  try simp only [Act.put, sA_, s0_, sS_]
  refine hr_ 6 (.slice (some ⟨g3, 0, none⟩) b3.length c3) rfl y0 (fun W hW => ?_) ?_
  · (clear hW; go_simp)
  try simp only [Act.put, sA_, s0_, sS_]
  refine wpAnyH_done (by kernel_rfl) ?_ _
  have HY := hid y0
  obtain ⟨c0, c1, c2', c3'⟩ := HC.out w3 y0
  clear y0
  go_wp2_with fail
  refine Calls.mono (RNumber_any HB3.out (by omega) (vn : Int) ⟨by omega, by omega⟩) ?_
  rintro e w4 ⟨g4, c4, rfl, hown4, hx4⟩
  obtain ⟨b4, hb4⟩ : ∃ b4, b4 = b3 ++ numS (vn : Int) := ⟨_, rfl⟩
  rw [← hb4] at hown4 ⊢
  have hbl4 : b4.length ≤ 27 := by rw [hb4, List.length_append]; have := (numB_len (max (vn : Int) 0).toNat).2; show b3.length + (numB _).length ≤ _; omega
  have HE4 := hid hb4
  have HB4 := hid (hown4.any (by omega))
  have HY4 := hid (HY.out.trans' hx4)
  clear hown4 hx4 hb4 c0 c1 c2' c3'
  obtain ⟨c0, c1, c2', c3'⟩ := HC.out w4 HY4.out
  go_wp2
  go_loopw [3, 5, 26] (fun x _ z wr => ∃ (k : Nat) (g c : Nat) (b : By), k ≤ vn ∧ z = .int .i64 (k : Int) ∧ x = .slice (some ⟨g, 0, none⟩) b.length c ∧ Hid (b = b4 ++ ((vs.take k).map numS).flatten) ∧ Hid (b.length ≤ 27 + 9 * k) ∧ Hid (ByF (fun _ => True) wr (some ⟨g, 0, none⟩) b.length c b) ∧ Hid (Ext wc wr)) (fun _ _ z _ => vn - (intOf z).toNat)
  case atStart => exact ⟨0, g4, c4, b4, Nat.zero_le _, rfl, rfl, hid (by simp), hid (by omega), HB4.out, HY4.out⟩
  obtain ⟨k, g, c, b, hk, rfl, rfl, HE, HLEN, HB, HX⟩ := hrel
  by_cases hlt : k < vn
  · obtain ⟨pb, po, rfl, hpl, hkl, q, q64⟩ := (HV.out.below (HX1.out.trans' HX.out)).at_ hlt
    have htk : ((vs.take (k + 1)).map numS).flatten = ((vs.take k).map numS).flatten ++ numS vs[k] := by
      rw [List.take_succ_eq_append_getElem hkl, List.map_append, List.flatten_append]; simp
    generalize vs[k] = x at *
    have HTK := hid htk
    have H64 := hid q64
    have hki : (k : Int) < (vn : Int) := by omega
    have hki0 : (0 : Int) ≤ (k : Int) := by omega
    clear htk q64
    go_wp2_with fail
    refine Calls.mono (RNumber_any HB.out (by have := HLEN.out; omega) x H64.out) ?_
    rintro e w5 ⟨g5, c5, rfl, hown5, hx5⟩
    have hl5 : (b ++ numS x).length ≤ 27 + 9 * (k + 1) := by rw [List.length_append]; have := HLEN.out; have := (numB_len (max x 0).toNat).2; show b.length + (numB _).length ≤ _; omega
    have HB5 := hid (hown5.any (by omega))
    have HX5 := hid (HX.out.trans' hx5)
    have HL5 := hid hl5
    obtain ⟨b5, hb5⟩ : ∃ b5, b5 = b ++ numS x := ⟨_, rfl⟩
    rw [← hb5] at HB5 HL5 ⊢
    have HE5 := hid (show b5 = b4 ++ ((vs.take (k + 1)).map numS).flatten by rw [hb5, HE.out, HTK.out, List.append_assoc])
    clear hown5 hx5 hl5 hb5
    go_wp2
    go_roundw
    case rel => exact ⟨k + 1, g5, c5, b5, by omega, by go_num, rfl, HE5.out, HL5.out, HB5.out, HX5.out⟩
    case measure => simp [intOf]; omega
  have hkn : k = vn := by omega
  have HE6 := hid (show b = b4 ++ (vs.map numS).flatten by rw [HE.out, hkn, HVL.out.1, List.take_length])
  have hbl6 : b.length ≤ 90 := by have := HLEN.out; omega
  have hki : ¬ (k : Int) < (vn : Int) := by omega
  clear hkn hlt
  obtain ⟨c0, c1, c2', c3'⟩ := HC.out wr HX.out
  go_wp2_with fail
  refine Calls.mono (RNumber_any HB.out (by omega) (dn : Int) ⟨by omega, by omega⟩) ?_
  rintro e w5 ⟨g5, c5, rfl, hown5, hx5⟩
  obtain ⟨b5, hb5⟩ : ∃ b5, b5 = b ++ numS (dn : Int) := ⟨_, rfl⟩
  rw [← hb5] at hown5 ⊢
  have hbl5 : b5.length ≤ 99 := by rw [hb5, List.length_append]; have := (numB_len (max (dn : Int) 0).toNat).2; show b.length + (numB _).length ≤ _; omega
  have HH5 := hid (show L = recB b5 :: (chunksB d).map recB by rw [HL.out, hb5, HE6.out, HE4.out, HE3.out, HE2.out, HVL.out.1, HDN.out])
  have HB5 := hid (hown5.any (by omega))
  have HX5 := hid (HX.out.trans' hx5)
  clear hown5 hx5 hb5 c0 c1 c2' c3'
  go_wp2_with fail
  refine Calls.mono (RRecord_any HB5.out (by omega)) ?_
  rintro e w6 ⟨g6, c6, rfl, hown6, hx6⟩
  obtain ⟨r6, hr6⟩ : ∃ r6, r6 = recB b5 := ⟨_, rfl⟩
  rw [← hr6] at hown6 ⊢
  have hrl6 : r6.length ≤ 200 := by rw [hr6, recB_len]; have := (numB_len b5.length).2; omega
  have HR6 := hid (show L = r6 :: (chunksB d).map recB by rw [HH5.out, hr6])
  have HX6 := hid (HX5.out.trans' hx6)
  have HO6 := hid (OwnRL.one_ (B := wc.heap.size) ((hown6.by_ (by omega)).more fun q hq => Nat.le_trans HX5.out.size hq.1) HX6.out.size)
  have HX7 := hid (HX6.out.trans' (ext_alloc w6 (.cells #[.slice (some ⟨g6, 0, none⟩) r6.length c6] 23)))
  have hd512 : dn ≤ 262144 := hdn18
  clear hown6 hx6 hr6
  go_wp2
  generalize w6.alloc (.cells #[.slice (some ⟨g6, 0, none⟩) r6.length c6] 23) = w7 at *
  go_loopw [8, 9, 10, 11] (fun v z _ _ wr => ∃ (k : Nat) (a : Option Addr) (n c : Nat), 512 * k ≤ dn + 511 ∧ z = .int .i64 ((512 * k : Nat) : Int) ∧ v = .slice a n c ∧ Hid (OwnRL wc.heap.size wr (.slice a n c) (r6 :: ((chunksB d).take k).map recB)) ∧ Hid (Ext wc wr)) (fun _ z _ _ _ => 600000 - (intOf z).toNat)
  case atStart => exact ⟨0, _, _, _, by omega, rfl, rfl, HO6.out, HX7.out⟩
  obtain ⟨k, oa, on, oc, hk, rfl, rfl, HO, HXR⟩ := hrel
  obtain ⟨p, hp⟩ : ∃ p, p = 512 * k := ⟨_, rfl⟩
  have HP := hid hp
  obtain ⟨c0, c1, c2', c3'⟩ := HC.out wr HXR.out
  by_cases hlt : p < dn
  · have hk1 : k < (d.length + 511) / 512 := by have := HDN.out; omega
    have htk := parts_take hk1
    have HTK := hid htk
    obtain ⟨e, he⟩ : ∃ e, e = min (p + 512) dn := ⟨_, rfl⟩
    have hel : e ≤ dn := by omega
    obtain ⟨ca, cm, ck, u1, u2, hcb⟩ := cut_lh (HD.out.below (HX1.out.trans' HXR.out)) (p : Int) (e : Int) (by omega) (by omega) (by omega)
    rw [Int.toNat_natCast, Int.toNat_natCast] at hcb
    have hch : (d.take e).drop p = chunkB d k := by
      unfold chunkB
      have := HDN.out
      rw [← hp, List.drop_take]
      rcases Nat.le_total (p + 512) dn with h | h
      · rw [he, Nat.min_eq_left h, show p + 512 - p = 512 by omega]
      rw [he, Nat.min_eq_right h, List.take_of_length_le (by rw [List.length_drop]; omega), List.take_of_length_le (by rw [List.length_drop]; omega)]
    rw [hch] at hcb
    have HCB := hid hcb
    have hcm : cm ≤ 512 := by rw [hcb.1]; exact chunkB_len d k
    have m1 : min ((p : Int) + 512) (dn : Int) = (e : Int) := by omega
    have m2 : IntKind.i64.wrap ((p : Int) + 512) = (p : Int) + 512 := IntWalk.i64_in _ ⟨by omega, by omega⟩
    have hpi : (p : Int) < (dn : Int) := by omega
    have hpi0 : (0 : Int) ≤ (p : Int) := by omega
    rw [← hp]
    clear htk he hch hcb hk hp
    go_wp2_with fail
    refine Calls.mono (RRecord_any HCB.out (by omega)) ?_
    rintro e2 w8 ⟨g8, c8, rfl, hown8, hx8⟩
    obtain ⟨r8, hr8⟩ : ∃ r8, r8 = recB (chunkB d k) := ⟨_, rfl⟩
    rw [← hr8] at hown8 ⊢
    have hrl8 : r8.length ≤ 1000 := by rw [hr8, recB_len]; have := (numB_len (chunkB d k).length).2; have := chunkB_len d k; omega
    have HR8 := hid (show ((chunksB d).take (k + 1)).map recB = ((chunksB d).take k).map recB ++ [r8] by rw [HTK.out, List.map_append, hr8]; rfl)
    have x9 := ext_alloc w8 (.cells #[.slice (some ⟨g8, 0, none⟩) r8.length c8] 23)
    have HX9 := hid (HXR.out.trans' (hx8.trans' x9))
    have HO9 := hid ((HO.out.ext hx8).ext x9)
    have hby8 := hown8.by_ (by omega)
    have hne : ByF (fun q => wc.heap.size ≤ q ∧ (Value.slice oa on oc).ownBlock ≠ some q) (w8.alloc (.cells #[.slice (some ⟨g8, 0, none⟩) r8.length c8] 23)) (some ⟨g8, 0, none⟩) r8.length c8 r8 := (hby8.below x9).more fun q hq => by
      refine ⟨by have h1 := hq.1; have h2 := HXR.out.size; omega, ?_⟩
      rcases HO.out.form with ⟨e1, -⟩ | ⟨g1, c1, e1, -, e3⟩
      · rw [e1]; exact fun e => by cases e
      rw [e1]; intro e; injection e with e; have e := (show g1 = q from e); have := hq.1; omega
    have HNE := hid hne
    have hcc : (w8.alloc (.cells #[.slice (some ⟨g8, 0, none⟩) r8.length c8] 23)).cell? ⟨w8.heap.size, 0, none⟩ = some (.slice (some ⟨g8, 0, none⟩) r8.length c8) := by unfold World.cell?; rw [heap_alloc_new]; rfl
    have HCC := hid hcc
    have HKB := hid (show (r6 :: ((chunksB d).take k).map recB).length ≤ 1000 by
      rw [List.length_cons, List.length_map, List.length_take, chunks_len]; have := HDN.out; omega)
    clear hown8 hx8 hr8 x9 hby8 hne hcc c0 c1 c2' c3'
    go_wp2_with (at_builtin; refine wpList_appRL rfl (.tmp 66) (.tmp 68) rfl wc.heap.size _ (r6 :: ((chunksB d).take k).map recB) rfl HO9.out w8.heap.size rfl (some ⟨g8, 0, none⟩) r8.length c8 r8 HCC.out HNE.out (by have := HKB.out; omega) HX9.out.size ?_; intro v10 w10 hown10 hx10; obtain ⟨a10, n10, c10, rfl⟩ := hown10.slice_; have HO10 := hid hown10; have HX10 := hid (show Ext wc w10 from HX9.out.trans hx10); clear hown10 hx10)
    go_roundw
    case rel => exact ⟨k + 1, a10, n10, c10, by have := HP.out; omega, by have := HP.out; go_num, rfl, hid (by rw [HR8.out]; exact HO10.out), HX10.out⟩
    case measure => simp [intOf]; omega
  have hka : (d.length + 511) / 512 ≤ k := by have := HDN.out; omega
  have hkk : k = (d.length + 511) / 512 := by have := HDN.out; omega
  have HFI := hid (show r6 :: ((chunksB d).take k).map recB = L by rw [HR6.out, List.take_of_length_le (by rw [chunks_len]; omega)])
  have hpi : ¬ (p : Int) < (dn : Int) := by omega
  rw [← hp]
  clear hka hkk hlt hk hp
  go_wp2
  go_ret
  have ho := HO.out
  rw [HFI.out] at ho
  have hz := HX1.out.size
  obtain ⟨HH, o1, o2, o3⟩ := ho
  exact ⟨oa, on, oc, rfl, ⟨HH, o1, ⟨o2.1, o2.2.imp id fun ⟨g5, cp, cur, h1, h2, h3⟩ => ⟨g5, cp, cur, h1, by omega, h3⟩⟩, fun k k1 k2 => by obtain ⟨a, n, c, e, hb⟩ := o3 k k1 k2; exact ⟨a, n, c, e, hb.more fun q hq => ⟨Nat.le_trans hz hq.1, hq.2⟩⟩⟩, HX1.out.trans' HXR.out⟩
theorem rown_byF {w : World} {B : Nat} {a : Option Addr} {n c : Nat} {d : By} (h : w.ownsRow B 5 1 (.slice a n c) d.length (u8s d)) (hd : d.length ≤ 140737488351232) : ByF (fun q => B ≤ q ∧ q < w.heap.size) w a n c d := by
  rcases h.2 with ⟨e, e2⟩ | ⟨g, cap, cur, e, hr⟩
  · injection e with e1 e2' e3
    subst e1; subst e2'; subst e3
    have : d = [] := List.eq_nil_of_length_eq_zero e2
    subst this
    exact ByF.nil_ _ _
  injection e with e1 e2' e3
  subst e1; subst e2'; subst e3
  exact OwnB.by_ ⟨rfl, g, _, rfl, h⟩ hd
def RFilePost (d : By) (w : World) (e : Ending) (w' : World) : Prop := ∃ a n c, e = .returned (.slice a n c) ∧ ByF (fun q => w.heap.size ≤ q ∧ q < w'.heap.size) w' a n c d ∧ Ext w w'
theorem flat_take2 (L : List By) (k : Nat) (hk : k < L.length) : (L.take (k + 1)).flatten = (L.take k).flatten ++ L[k] := by
  rw [List.take_succ_eq_append_getElem hk, List.flatten_append]; simp
theorem flat_len_take (L : List By) (k : Nat) : (L.take k).flatten.length ≤ L.flatten.length := by
  have : L.flatten = (L.take k).flatten ++ (L.drop k).flatten := by rw [← List.flatten_append, List.take_append_drop]
  rw [this, List.length_append]; omega
set_option maxRecDepth 100000 in
set_option maxHeartbeats 8000000 in
theorem RFile_any {F : Nat → Prop} {w : World} {v : Value} {s : Sn} (h : SnV F w v s) (hs : checkS s = 0) :
    Calls Tryz.prog 105 #[v] w (RFilePost (fileB s) w) := by
  have hvs := (checkS_ok hs).2.2.2.1
  have hdl := (checkS_ok hs).2.2.2.2.2
  have hpl := partsB_len hs
  obtain ⟨va, vn, vc, da, dn, dc, rfl, -⟩ := id h
  have HPA := hid (RParts_any (h.below (ext_alloc w (.cells #[.int .i64 s.i, .int .i64 s.t, .slice va vn vc, .slice da dn dc] 25))) hvs hdl)
  have HX1 := hid (ext_alloc w (.cells #[.int .i64 s.i, .int .i64 s.t, .slice va vn vc, .slice da dn dc] 25))
  obtain ⟨L, hL⟩ : ∃ L, L = partsB s := ⟨_, rfl⟩
  rw [← hL] at HPA hpl
  have HFB := hid (show fileB s = L.flatten by rw [hL]; rfl)
  have HPL := hid hpl
  clear h hs hvs hdl hpl hL
  go_enter Tryz.func105, Tryz.ntmps105
  go_wp2_with fail
  refine Calls.mono HPA.out ?_
  rintro e w2 ⟨a2, n2, c2, rfl, hown, hx2⟩
  have hbs := hown.bs (by have := HPL.out.1; omega)
  have hn2 := hbs.1
  have HBS := hid hbs
  have HN2 := hid hn2
  have hn513 : n2 ≤ 513 := by have := HPL.out.1; omega
  have HX2 := hid (HX1.out.trans' hx2)
  clear hown hbs hn2 hx2 HPA
  go_wp2
  go_loopw [3, 5, 9] (fun x _ z wr => ∃ (k : Nat) (a : Option Addr) (n c : Nat), k ≤ n2 ∧ z = .int .i64 (k : Int) ∧ x = .slice a n c ∧ Hid (wr.ownsRow w2.heap.size 5 1 (.slice a n c) n (u8s (L.take k).flatten)) ∧ Hid (Ext w2 wr)) (fun _ _ z _ => n2 - (intOf z).toNat)
  case atStart => exact ⟨0, none, 0, 0, Nat.zero_le _, rfl, rfl, hid (World.ownsRow_nil _ _ _ _), Below.refl _ _⟩
  obtain ⟨k, xa, xn, xc, hk, rfl, rfl, HO, HX⟩ := hrel
  have hxn : xn = (L.take k).flatten.length := by have h1 := HO.out.1; unfold u8s at h1; rw [List.length_map] at h1; omega
  have hxl : xn ≤ 1000000 := by have := flat_len_take L k; have := HPL.out.2; omega
  by_cases hlt : k < n2
  · obtain ⟨b, o, rfl, hbl, hkl, a', n', c', q, hby⟩ := (HBS.out.below HX.out).at_ hlt
    have hft := flat_take2 L k hkl
    have hfl := flat_len_take L (k + 1)
    generalize L[k] = p at *
    have hn' := hby.1
    have hn'l : n' ≤ 1000000 := by rw [hft, List.length_append] at hfl; have := HPL.out.2; omega
    have HBY := hid hby
    have HFT := hid hft
    have hki : (k : Int) < (n2 : Int) := by omega
    have hki0 : (0 : Int) ≤ (k : Int) := by omega
    have hac : a' = none → c' = 0 := hby.2.2.2.1
    have HRAW := hid hby.raw
    clear hby hft hfl hn' hxn
    go_wp2_with (at_builtin; refine wpList_append_row rfl (.tmp 13) (.tmp 14) _ rfl w2.heap.size 5 (.int .u8 0) 1 1 Tryz.underlying23 info_u8 rfl (by decide) (.slice xa xn xc) xn _ rfl HO.out a' n' c' (u8s p) rfl hac HRAW.out (u8s_mem p) (by unfold maxLen; omega) (by omega) HX.out.size ?_; intro v5 w5 hown5 hg5; obtain ⟨a5, c5, rfl⟩ := own_slice2 hown5; have HX5 := hid (HX.out.grown hg5 HX.out.size (fun q hq => (HO.out.lt q hq).1)); have HO5 := hid hown5; clear hown5 hg5)
    go_roundw
    case rel => exact ⟨k + 1, a5, xn + n', c5, by omega, by go_num, rfl, hid (by
      have h5 := HO5.out
      rw [HFT.out]
      unfold u8s at h5 ⊢
      rw [List.map_append]
      exact h5), HX5.out⟩
    case measure => simp [intOf]; omega
  have hkn : k = n2 := by omega
  have HT := hid (show (L.take k).flatten = L.flatten by rw [hkn, HN2.out, List.take_length])
  have hki : ¬ (k : Int) < (n2 : Int) := by omega
  have HXN := hid hxn
  clear hkn hlt hxn
  go_wp2
  go_ret
  have ho := HO.out
  rw [HT.out] at ho
  have hxn := HXN.out
  rw [HT.out] at hxn
  subst hxn
  have hb := rown_byF ho (by omega)
  rw [← HFB.out] at hb
  exact ⟨xa, _, xc, rfl, by rw [← HFB.out]; exact hb.more fun q hq => ⟨Nat.le_trans HX2.out.size hq.1, hq.2⟩, HX2.out.trans' HX.out⟩
end Go.Proofs.YtjapeaoebjmpnaaGreatDoor
