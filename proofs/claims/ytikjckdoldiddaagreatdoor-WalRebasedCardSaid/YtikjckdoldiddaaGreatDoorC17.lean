/- A disk's calls, as they are used on top of it. -/
import Derived.Test.YtikjckdoldiddaaGreatDoorC04
import Derived.Test.YtikjckdoldiddaaGreatDoorC07
import Derived.Test.YtikjckdoldiddaaGreatDoorC16
import Derived.Test.YtikjckdoldiddaaGreatDoorC00
namespace Go.Proofs.YtikjckdoldiddaaGreatDoor
open Go.RowKit Go.Maps
set_option linter.unusedVariables false
set_option linter.unusedSimpArgs false
attribute [local go_sem] bmax2 bmin2 bmax_two bmin_two

theorem Write_at {D G : Nat → Prop} {w : World} {g : Nat} {s : DS} (h : DiskAt D w g s) (hok : s.Ok) (hc : s.acts.length < 1000000000000) (n : Nm) (hn : n.length ≤ maxLen) (k : Int) (hk : In64 k) {a : Option Addr} {bn bc : Nat} {b : By} (hb : ByF G w a bn bc b) :
    Calls Tryz.prog 77 #[.pointer (some ⟨g, 0, none⟩), .string ⟨n.toArray⟩, .int .i64 k, .slice a bn bc] w (DoPost D g (s.write n k b) w) := by
  obtain ⟨ms, ml, av, H, h⟩ := h
  exact Write_in h hok hc n hn k hk hb
theorem Drop_at {D : Nat → Prop} {w : World} {g : Nat} {s : DS} (h : DiskAt D w g s) (hok : s.Ok) (hc : s.acts.length < 1000000000000) (n : Nm) (hn : n.length ≤ maxLen) :
    Calls Tryz.prog 59 #[.pointer (some ⟨g, 0, none⟩), .string ⟨n.toArray⟩] w (DoPost D g (s.drop n) w) := by
  obtain ⟨ms, ml, av, H, h⟩ := h
  exact Drop_in h hok hc n hn
theorem Sync_at {D : Nat → Prop} {w : World} {g : Nat} {s : DS} (h : DiskAt D w g s) (hok : s.Ok) (hc : s.acts.length < 1000000000000) :
    Calls Tryz.prog 62 #[.pointer (some ⟨g, 0, none⟩)] w (DoPost D g s.sync w) := by
  obtain ⟨ms, ml, av, H, h⟩ := h
  exact Sync_in h hok hc
theorem Read_at {D : Nat → Prop} {w : World} {g : Nat} {s : DS} (h : DiskAt D w g s) (n : Nm) (hn : n.length ≤ maxLen) :
    Calls Tryz.prog 97 #[.pointer (some ⟨g, 0, none⟩), .string ⟨n.toArray⟩] w (ReadPost s n w) := by
  obtain ⟨ms, ml, av, H, h⟩ := h
  exact Read_in h n hn
theorem List_at {D : Nat → Prop} {w : World} {g : Nat} {s : DS} (h : DiskAt D w g s) (hok : s.Ok) :
    Calls Tryz.prog 57 #[.pointer (some ⟨g, 0, none⟩)] w (ListPost s w) := by
  obtain ⟨ms, ml, av, H, h⟩ := h
  exact List_in h hok
theorem Clone_at {D : Nat → Prop} {w : World} {g : Nat} {s : DS} (h : DiskAt D w g s) (hok : s.Ok) (hc : s.acts.length < 1000000000000) :
    Calls Tryz.prog 55 #[.pointer (some ⟨g, 0, none⟩)] w fun e w' => (∃ p, e = .returned (.pointer (some p))) ∧ Ext w w' := by
  obtain ⟨ms, ml, av, H, h⟩ := h
  exact Clone_in h hok hc
/-- One call behind another. -/
theorem DoPost.next {D : Nat → Prop} {w w1 w2 w3 : World} {g : Nat} {s : DS} {r : Int × DS} {e : Ending} (h1 : DiskAt (grow D w w1) w1 g s) (hf1 : Frm D w w1) (hx : Ext w1 w2) (h : DoPost (grow D w w1) g r w2 e w3) : DoPost D g r w e w3 := by
  obtain ⟨p1, p2, p3⟩ := h
  have z1 := hf1.size
  have z2 := hx.size
  have z3 := p3.size
  have hl := h1.lt
  refine ⟨p1, p2.more (grow.trans2 (by omega) (by omega)) fun q hq => ?_, ?_⟩
  · rcases hq with hq | hq
    · have h3 := hl q (.inl hq); omega
    exact hq.2
  exact (hf1.then_ext hx).trans p3 fun q hq => by
    rcases hq with hq | hq
    · exact .inl hq
    exact .inr hq.1
theorem DS.hit_acts (s : DS) : s.hit.2.acts = s.acts := by unfold DS.hit; split <;> rfl
theorem DS.fall_acts (s : DS) (k t : Int) : (s.fall k t).acts = [] := rfl
theorem DS.does_acts (s : DS) (a : ActS) : (s.does a).2.acts.length ≤ s.acts.length + 1 := by
  unfold DS.does
  dsimp only
  split
  · rw [DS.fall_acts]; simp
  rw [DS.hit_acts]; simp
theorem DS.drop_acts (s : DS) (n : Nm) : (s.drop n).2.acts.length ≤ s.acts.length + 1 := by
  unfold DS.drop
  have h1 := fun a => DS.does_acts s a
  split
  all_goals first
    | exact h1 _
    | (dsimp only; omega)
theorem Crash_at {D : Nat → Prop} {w : World} {g : Nat} {s : DS} (h : DiskAt D w g s) (hok : s.Ok) (hc : s.acts.length < 1000000000000) (keep tear : Int) (hk : In64 keep) (ht : In64 tear) :
    Calls Tryz.prog 16 #[.pointer (some ⟨g, 0, none⟩), .int .i64 keep, .int .i64 tear] w (DoPost D g (s.crash keep tear) w) := by
  obtain ⟨ms, ml, av, H, h⟩ := h
  exact Crash_in h hok hc keep tear hk ht
theorem Start_at {D : Nat → Prop} {w : World} {g : Nat} {s : DS} (h : DiskAt D w g s) :
    Calls Tryz.prog 17 #[.pointer (some ⟨g, 0, none⟩)] w (DoPost D g (0, s.start) w) := by
  obtain ⟨ms, ml, av, H, h⟩ := h
  exact Start_in h
theorem DoPost.ext {D : Nat → Prop} {g : Nat} {r : Int × DS} {w0 w w' : World} {e : Ending} (hx : Ext w0 w) (hD : ∀ q, D q → w0.heap.size ≤ q) (h : DoPost D g r w e w') : Ext w0 w' ∧ DiskAt (grow D w w') w' g r.2 ∧ (∀ q, grow D w w' q → w0.heap.size ≤ q) := by
  refine ⟨ext_frm hx h.2.2 hD, h.2.1, fun q hq => ?_⟩
  rcases hq with hq | hq
  · exact hD q hq
  have := hx.size; omega
theorem mem_ins {x p : Nm × By} : ∀ {T : Tab}, p ∈ tIns x T → p = x ∨ p ∈ T := by
  intro T
  induction T with
  | nil => intro h; simp only [tIns, List.mem_singleton] at h; exact .inl h
  | cons y r ih =>
    intro h
    unfold tIns at h
    split at h
    · rcases List.mem_cons.1 h with h | h
      · exact .inl h
      exact .inr h
    rcases List.mem_cons.1 h with h | h
    · exact .inr (by rw [h]; exact List.mem_cons_self ..)
    rcases ih h with h | h
    · exact .inl h
    exact .inr (List.mem_cons_of_mem _ h)
/-- A row of names. -/
theorem row_str {w : World} {B : Nat} {v : Value} {L : List Nm} (h : w.ownsRow B 9 1 v L.length (L.map strV)) :
    ∃ a c, v = .slice a L.length c ∧ L.length ≤ c ∧ ∀ k, (hk : k < L.length) → ∃ b, a = some ⟨b, 0, none⟩ ∧ B ≤ b ∧ b < w.heap.size ∧ w.cell? ⟨b, k, none⟩ = some (.string ⟨(L[k]).toArray⟩) := by
  obtain ⟨e0, ⟨e1, e2⟩ | ⟨g, cap, cur, e1, e2, e3, e4, e5, e6, e7⟩⟩ := h
  · refine ⟨none, 0, by rw [e1, e2], by omega, fun k hk => by omega⟩
  refine ⟨some ⟨g, 0, none⟩, cap, e1, e4, fun k hk => ⟨g, rfl, e2, (Array.getElem?_eq_some_iff.1 e3).1, ?_⟩⟩
  have hq := congrArg (fun l => l[k]?) e7
  simp only [List.getElem?_take, Nat.mul_one] at hq
  rw [if_pos hk, List.getElem?_map, List.getElem?_eq_getElem hk] at hq
  unfold World.cell?
  simp only [e3]
  simpa [Array.getElem?_toList, strV] using hq
theorem read_len {d : DS} (hok : d.Ok) (f : Nm) : (d.read f).1.length ≤ 16777216 := by
  obtain ⟨-, -, h3, -, -⟩ := hok.run
  unfold DS.read
  split
  · simp
  exact Nat.le_trans (tOld_le _ _) h3
end Go.Proofs.YtikjckdoldiddaaGreatDoor

/- As OwnR, with bytes of the row's own; Rows, said so. -/
namespace Go.Proofs.YtikjckdoldiddaaGreatDoor
open Go.RowKit Go.Maps
set_option linter.unusedVariables false
set_option linter.unusedSimpArgs false
attribute [local go_sem] bmax2 bmin2 bmax_two bmin_two

/-- As OwnR; the rows' bytes lie behind B too. -/
def OwnRL (B : Nat) (w : World) (v : Value) (L : List By) : Prop :=
  ∃ H : List Value, H.length = L.length ∧ w.ownsRow B 37 1 v H.length H ∧
    ∀ k (h1 : k < H.length) (h2 : k < L.length), ∃ a n c, H[k] = .slice a n c ∧ ByF (fun q => B ≤ q ∧ v.ownBlock ≠ some q) w a n c L[k]
theorem OwnRL.keep {B : Nat} {w w' : World} {v : Value} {L : List By} (h : OwnRL B w v L) (hk : ∀ q, q < w.heap.size → w'.heap[q]? = w.heap[q]?) : OwnRL B w' v L := by
  obtain ⟨H, h1, h2, h3⟩ := h
  refine ⟨H, h1, own_keep h2 fun q hq => hk q (own_cells h2 hq).1, fun k k1 k2 => ?_⟩
  obtain ⟨a, n, c, e, hb⟩ := h3 k k1 k2
  exact ⟨a, n, c, e, hb.keep fun q hq hl => ⟨hq, hk q hl⟩⟩
theorem OwnRL.ext {B : Nat} {w w' : World} {v : Value} {L : List By} (h : OwnRL B w v L) (hx : Ext w w') : OwnRL B w' v L := h.keep hx.block
theorem OwnRL.nil_ (B : Nat) (w : World) : OwnRL B w (.slice none 0 0) [] := ⟨[], rfl, World.ownsRow_nil _ _ _ _, fun k h1 => by cases h1⟩
theorem OwnRL.form {B : Nat} {w : World} {v : Value} {L : List By} (h : OwnRL B w v L) : (v = .slice none 0 0 ∧ L = []) ∨ ∃ g c, v = .slice (some ⟨g, 0, none⟩) L.length c ∧ B ≤ g ∧ g < w.heap.size := by
  obtain ⟨H, h1, h2, h3⟩ := h
  rcases h2.2 with ⟨e1, e2⟩ | ⟨g, c, cur, e1, e2, e3, -⟩
  · exact .inl ⟨e1, List.eq_nil_of_length_eq_zero (h1.symm.trans e2)⟩
  exact .inr ⟨g, c, by rw [e1, h1], e2, (Array.getElem?_eq_some_iff.1 e3).1⟩
theorem OwnRL.slice_ {B : Nat} {w : World} {v : Value} {L : List By} (h : OwnRL B w v L) : ∃ a n c, v = .slice a n c := by
  rcases h.form with ⟨e1, -⟩ | ⟨g1, c1, e1, -⟩
  · exact ⟨_, _, _, e1⟩
  exact ⟨_, _, _, e1⟩
/-- As a row to read. -/
theorem OwnRL.bs {B : Nat} {w : World} {a : Option Addr} {n c : Nat} {L : List By} (h : OwnRL B w (.slice a n c) L) (hL : L.length ≤ 1000000000000) : BsF (fun q => B ≤ q) w a n c L := by
  obtain ⟨H, h1, h2, h3⟩ := h
  obtain ⟨e0, e1 | ⟨g, cap, cur, e1, e2, e3, e4, e5, e6, e7⟩⟩ := h2
  · obtain ⟨e1, e2⟩ := e1
    injection e1 with i1 i2 i3
    subst i1; subst i2; subst i3
    exact ⟨by omega, Nat.le_refl _, ⟨by unfold maxLen; omega, by omega⟩, fun _ => rfl, fun p hp => by cases hp⟩
  injection e1 with i1 i2 i3
  subst i1; subst i2; subst i3
  refine ⟨h1, e4, ⟨e5, by omega⟩, (fun e => by cases e), fun p hp => ?_⟩
  cases hp
  refine ⟨fun _ => rfl, fun k hk => ⟨e2, ?_⟩⟩
  obtain ⟨a', n', c', q1, q2⟩ := h3 k (by omega) hk
  refine ⟨a', n', c', ?_, q2.more fun _ hq => hq.1⟩
  rw [← q1]
  have hq := congrArg (fun l => l[k]?) e7
  simp only [List.getElem?_take, Nat.mul_one] at hq
  rw [if_pos (by omega), List.getElem?_eq_getElem (by omega : k < H.length)] at hq
  unfold World.cell?
  simp only [e3, Nat.zero_add]
  simpa [Array.getElem?_toList] using hq

/-- One more. -/
theorem wpList_appRL {w : World} {ops : Array Oper} {rest : List Oper} {o : Oper} {a : Act} {Q : Exit → Act → World → Prop} (hgd : o.guard = none) (s x : Operand)
    (ho : o.op = .call { callee := .builtin .append, args := #[s, x], argTypes := #[23, 23] })
    (B : Nat) (v : Value) (L : List By) (hs : a.eval s = v) (hown : OwnRL B w v L) (g : Nat) (hx : a.eval x = .slice (some ⟨g, 0, none⟩) 1 1) (A : Option Addr) (n c : Nat) (d : By)
    (hc : w.cell? ⟨g, 0, none⟩ = some (.slice A n c)) (hd : ByF (fun q => B ≤ q ∧ v.ownBlock ≠ some q) w A n c d) (hlen : L.length ≤ 1000000000000) (hB : B ≤ w.heap.size)
    (h : ∀ v' w', OwnRL B w' v' (L ++ [d]) → Below B w w' → wpList Tryz.prog ops Q rest (a.put o.dst v') w') : wpList Tryz.prog ops Q (o :: rest) a w := by
  obtain ⟨H, h1, h2, h3⟩ := hown
  obtain ⟨i, hi, hz, hz1, hz2⟩ := info_parts info_sl
  refine wpList_append_own_at w hgd s x 23 ho B 37 i (.slice none 0 0) 1 24 Tryz.underlying23 hi hz hz1 hz2 rfl (by decide) v H.length H hs h2 ⟨g, 0, none⟩ 1 1 [.slice A n c] hx rfl
    (fun j u hu => by
      cases j with
      | zero => have hu := Option.some.inj hu; subst hu; exact hc
      | succ j => cases (show (none : Option Value) = some u from hu)) (fun u hu => by rw [List.mem_singleton] at hu; subst hu; rfl) (by unfold maxLen; omega) (by omega) hB fun v' w' q1 q2 q3 q4 => ?_
  have hbel : Below B w w' := (Below.refl _ _).grown q2 hB fun q hq => by
    rcases h2.2 with ⟨e1, -⟩ | ⟨g1, c1, cur, e1, e2, -⟩
    · rw [e1] at hq; cases hq
    rw [e1] at hq; injection hq with hq; subst hq; exact e2
  have hkeep : ∀ {A : Option Addr} {n c : Nat} {d : By}, ByF (fun q => B ≤ q ∧ v.ownBlock ≠ some q) w A n c d → ByF (fun q => B ≤ q ∧ v'.ownBlock ≠ some q) w' A n c d := fun hb => hb.keep fun q hq hl => by
    refine ⟨⟨hq.1, ?_⟩, q2.block q hl fun e => hq.2 e.symm⟩
    rcases q4 with e | e
    · rw [e]; exact hq.2
    rw [e]; intro e2; injection e2 with e2; omega
  refine h v' w' ⟨H ++ [.slice A n c], by simp [h1], by rw [List.length_append]; exact q1, fun k k1 k2 => ?_⟩ hbel
  by_cases hk : k < H.length
  · obtain ⟨a', n', c', p1, p2⟩ := h3 k hk (by omega)
    refine ⟨a', n', c', by rw [List.getElem_append_left hk]; exact p1, ?_⟩
    rw [List.getElem_append_left (by omega : k < L.length)]
    exact hkeep p2
  have hkL : k = L.length := by simp at k2; omega
  subst hkL
  refine ⟨A, n, c, by simp [h1], ?_⟩
  simpa using hkeep hd

/-- What Rows leaves. -/
def RowsNPost (r : List By × Nat) (w : World) (e : Ending) (w' : World) : Prop := ∃ a n c, e = .returned (.tuple #[.slice a n c, .int .i64 (r.2 : Int)]) ∧ OwnRL w.heap.size w' (.slice a n c) r.1 ∧ Ext w w'

set_option maxRecDepth 100000 in
set_option maxHeartbeats 2000000 in
theorem RowsN_any {F : Nat → Prop} {w : World} {a : Option Addr} {n c : Nat} {b : By} (hb : ByF F w a n c b) (hn : n ≤ 1000000000) :
    Calls Tryz.prog 102 #[.slice a n c] w (RowsNPost (rowsB b) w) := by
  have HNB := hid (show n = b.length from hb.1)
  have HB := hid hb
  obtain ⟨R, hR⟩ : ∃ R, R = rowsB b := ⟨_, rfl⟩
  rw [← hR]
  have HR := hid hR
  clear hb hR
  go_enter Tryz.func102, Tryz.ntmps102
  go_wp2
  go_loopw [4, 5, 6, 7, 8] (fun v z _ _ _ wr => ∃ (at_ : Nat) (L : List By) (va : Option Addr) (vn vc : Nat), v = .slice va vn vc ∧ at_ ≤ n ∧ z = .int .i64 (at_ : Int) ∧ Hid (OwnRL w.heap.size wr (.slice va vn vc) L) ∧ L.length ≤ at_ ∧ Hid (R = (L ++ (rowsB (b.drop at_)).1, at_ + (rowsB (b.drop at_)).2)) ∧ Ext w wr) (fun _ z _ _ _ _ => n - (intOf z).toNat)
  case atStart => exact ⟨0, [], none, 0, 0, rfl, Nat.zero_le _, rfl, OwnRL.nil_ _ _, Nat.zero_le _, (show R = _ by rw [HR.out]; simp), Below.refl _ _⟩
  obtain ⟨at_, L, va, vn, vc, rfl, hat, rfl, HO, hL, HQ, hx⟩ := hrel
  obtain ⟨a2, m2, k2, u1, u2, hb2⟩ := cut_l (HB.out.below hx) (at_ : Int) (by omega) (by omega)
  rw [Int.toNat_natCast] at hb2
  obtain ⟨rb, hrb⟩ : ∃ rb, rb = b.drop at_ := ⟨_, rfl⟩
  rw [← hrb] at hb2 HQ
  have hm2 : m2 = n - at_ := by rw [hb2.1, hrb, List.length_drop, ← HNB.out]
  have hrl : rb.length = n - at_ := by rw [← hm2]; exact hb2.1.symm
  have hP := Pick_any hb2 (by omega)
  obtain ⟨pk, hpk⟩ : ∃ pk, pk = pickB rb := ⟨_, rfl⟩
  have heq := rowsB_eq rb
  rw [← hpk] at hP heq
  have HP := hid hP
  have HE := hid heq
  have hok := fun h : (pickB rb).2.2 = 0 => pickB_ok h
  rw [← hpk, hrl] at hok
  have HOK := hid hok
  have HRB := hid hrb
  clear hP heq hok hb2 hrl hpk hrb hm2
  obtain ⟨pd, pn, pz⟩ := pk
  by_cases hz : pz = 0
  · subst hz
    obtain ⟨o1, o2⟩ := HOK.out rfl
    have heq := HE.out
    rw [if_neg (by simp)] at heq
    have hq := HQ.out
    rw [heq] at hq
    have HQ2 := hid hq
    dsimp only at o1 o2
    clear heq hq HE HOK HQ
    obtain ⟨p2, hp2⟩ : ∃ p2, p2 = at_ + pn := ⟨_, rfl⟩
    have hsum : (at_ : Int) + (pn : Int) = (p2 : Int) := by omega
    have hp2n : p2 ≤ n := by omega
    have hsw : IntKind.i64.wrap (p2 : Int) = (p2 : Int) := by rw [IntKind.wrap_i64]; omega
    have HP2 := hid hp2
    clear hp2
    have hFresh := HO.out.form
    have HFR := hid hFresh
    clear hFresh
    go_wp2_with fail
    refine Calls.mono HP.out ?_
    rintro e w2 ⟨a3, n3, c3, rfl, hb3, hx2⟩
    have hz2 := hx2.size
    have hne : ByF (fun q => w.heap.size ≤ q ∧ (Value.slice va vn vc).ownBlock ≠ some q) w2 a3 n3 c3 pd := hb3.more fun q hq => by
      refine ⟨by have := hx.size; omega, ?_⟩
      rcases HFR.out with ⟨e1, -⟩ | ⟨g1, c1, e1, -, e3⟩
      · rw [e1]; exact fun e => by cases e
      rw [e1]; intro e; injection e with e; have e := (show g1 = q from e); omega
    have HNE := hid (hne.below (ext_alloc w2 (.cells #[.slice a3 n3 c3] 37)))
    have HO2 := hid ((HO.out.ext hx2).ext (ext_alloc w2 (.cells #[.slice a3 n3 c3] 37)))
    have HX2 := hid (hx.trans' (hx2.trans' (ext_alloc w2 (.cells #[.slice a3 n3 c3] 37))))
    have hcc : (w2.alloc (.cells #[.slice a3 n3 c3] 37)).cell? ⟨w2.heap.size, 0, none⟩ = some (.slice a3 n3 c3) := by unfold World.cell?; rw [heap_alloc_new]; rfl
    have hwz : w.heap.size ≤ (w2.alloc (.cells #[.slice a3 n3 c3] 37)).heap.size := HX2.out.size
    have HCC := hid hcc
    have HWZ := hid hwz
    clear hb3 hne hx2 hcc hwz hz2
    dsimp only
    go_wp2_with (at_builtin; refine wpList_appRL rfl (.tmp 21) (.tmp 23) rfl w.heap.size _ L rfl HO2.out w2.heap.size rfl a3 n3 c3 pd HCC.out HNE.out (by omega) HWZ.out ?_; intro v5 w5 hown5 hx5; obtain ⟨va5, vn5, vc5, rfl⟩ := hown5.slice_; have HO5 := hid hown5; have HX5 := hid hx5; clear hown5 hx5)
    go_wp2
    refine ⟨⟨p2, L ++ [pd], va5, vn5, vc5, rfl, by omega, by go_num, HO5.out, by have := HP2.out; simp; omega, ?_, HX2.out.trans HX5.out⟩, ?_⟩
    · refine hid ?_
      rw [HQ2.out, HRB.out, List.drop_drop, HP2.out]
      simp; omega
    have := HP2.out
    simp [intOf]; omega
  have heq := HE.out
  rw [if_pos hz] at heq
  have hq := HQ.out
  rw [heq] at hq
  have HQ2 := hid hq
  have hzb : (pz != 0) = true := by simpa using hz
  clear heq hq HE HOK HQ hz
  go_wp2_with fail
  refine Calls.mono HP.out ?_
  rintro e w2 ⟨a3, n3, c3, rfl, -, hx2⟩
  have HX2 := hid (hx.trans' hx2)
  have HO2 := hid (HO.out.ext hx2)
  clear hx2
  go_wp2
  go_ret2
  rw [HQ2.out]
  refine ⟨va, vn, vc, by simp, ?_, HX2.out⟩
  simpa using HO2.out
end Go.Proofs.YtikjckdoldiddaaGreatDoor

/- The plain log: how segments are read. -/
namespace Go.Proofs.YtikjckdoldiddaaGreatDoor
open Go.RowKit Go.Maps
set_option linter.unusedVariables false
set_option linter.unusedSimpArgs false

/-- A log: what its records say, the first segment, the last one, its size. -/
structure Wl where
  v : Wv
  fr : Nat
  tt : Nat
  sz : Nat
def wl0 : Wl := ⟨wv0, 0, 0, 0⟩
def segB (d : DS) (n : Nat) : By := (d.read (fileW n)).1
def segR (d : DS) (n : Nat) : List By := (rowsB (segB d n)).1
/-- What more leaves. -/
def Wl.grow (s : Wl) (L : List By) (k : Nat) : Wl := { s with v := (s.v.more (L.drop k)).1, sz := sizedB (L.take (k + (s.v.more (L.drop k)).2)) }
def followS (d : DS) : List Nat → Wl → Wl
  | [], s => s
  | n :: r, s =>
    if n ≠ s.tt + 1 ∨ segR d n = [] then s
    else if (s.grow (segR d n) 0).sz = 0 then { s.grow (segR d n) 0 with sz := s.sz }
    else if (s.grow (segR d n) 0).sz = (segB d n).length then followS d r { s.grow (segR d n) 0 with tt := n }
    else { s.grow (segR d n) 0 with tt := n }
theorem seg_bound {d : DS} (hok : d.Ok) (n : Nat) : (segB d n).length ≤ 16777216 ∧ (segR d n).length ≤ (segB d n).length ∧ ∀ p ∈ segR d n, p.length ≤ 65536 := by
  have h1 := read_len hok (fileW n)
  obtain ⟨b1, b2, b3, b4⟩ := rowsB_bound (segB d n).length (segB d n) (Nat.le_refl _)
  exact ⟨h1, Nat.le_trans b1 b2, b3⟩
def sumR (d : DS) (l : List Nat) : Nat := (l.map fun n => (segR d n).length).sum
theorem sumR_cons (d : DS) (n : Nat) (l : List Nat) : sumR d (n :: l) = (segR d n).length + sumR d l := rfl
/-- What a call leaves of a log. -/
def LgPost (F : Nat → Prop) (g : Nat) (dp : Value) (s : Wl) (w w' : World) : Prop :=
  LgB (fun q => F q ∨ (w.heap.size ≤ q ∧ q < w'.heap.size)) w' g dp s.v s.fr s.tt s.sz ∧ Frm (fun q => q = g) w w'
/-- One cell of a log is set. -/
theorem lg_set {F : Nat → Prop} {w : World} {g : Nat} {dp : Value} {v : Wv} {fr tt sz : Nat} (h : LgB F w g dp v fr tt sz) (hF : ¬ F g) :
    (∀ n : Nat, LgB F (w.setCell ⟨g, 6, none⟩ (.int .i64 (n : Int))) g dp v n tt sz ∧ LgB F (w.setCell ⟨g, 7, none⟩ (.int .i64 (n : Int))) g dp v fr n sz ∧ LgB F (w.setCell ⟨g, 8, none⟩ (.int .i64 (n : Int))) g dp v fr tt n) ∧
    ∀ (j : Nat) (x : Value), Frm (fun q => q = g) w (w.setCell ⟨g, j, none⟩ x) ∧ (w.setCell ⟨g, j, none⟩ x).heap.size = w.heap.size := by
  obtain ⟨la, ln, lc, h1, h2⟩ := h
  have S := fun (j : Nat) (x : Value) => (SetG.start h1).step j x
  have E : ∀ (j : Nat) (x : Value), EsF F (w.setCell ⟨g, j, none⟩ x) la ln lc v.l := fun j x => h2.keep fun q hq hl => ⟨hq, (S j x).frm.block q hl fun e => hF (by have e : q = g := e; rw [← e]; exact hq)⟩
  exact ⟨fun n => ⟨⟨la, ln, lc, (S 6 _).obj, E 6 _⟩, ⟨la, ln, lc, (S 7 _).obj, E 7 _⟩, ⟨la, ln, lc, (S 8 _).obj, E 8 _⟩⟩, fun j x => ⟨(S j x).frm, (S j x).size⟩⟩
theorem LgB.cells {F : Nat → Prop} {w : World} {g : Nat} {dp : Value} {v : Wv} {fr tt sz : Nat} (h : LgB F w g dp v fr tt sz) :
    w.cell? ⟨g, 5, none⟩ = some dp ∧ w.cell? ⟨g, 6, none⟩ = some (.int .i64 (fr : Int)) ∧ w.cell? ⟨g, 7, none⟩ = some (.int .i64 (tt : Int)) ∧ w.cell? ⟨g, 8, none⟩ = some (.int .i64 (sz : Int)) ∧ ∀ j, w.frozen? ⟨g, j, none⟩ = false := by
  obtain ⟨la, ln, lc, h1, h2⟩ := h
  obtain ⟨⟨-, -, -, -, -, c5, c6, c7, c8⟩, hfz, -⟩ := cells9 h1
  exact ⟨c5, c6, c7, c8, hfz⟩
theorem LgB.nine {F : Nat → Prop} {w : World} {g : Nat} {dp : Value} {v : Wv} {fr tt sz : Nat} (h : LgB F w g dp v fr tt sz) : ∃ x0 x1 x2 x3 x4, w.heap[g]? = some (.cells #[x0, x1, x2, x3, x4, dp, .int .i64 (fr : Int), .int .i64 (tt : Int), .int .i64 (sz : Int)] 64 (0, 0)) := by
  obtain ⟨la, ln, lc, h1, h2⟩ := h
  exact ⟨_, _, _, _, _, h1⟩
theorem LgPost.next {F : Nat → Prop} {g : Nat} {dp : Value} {s : Wl} {w w1 w2 w3 : World} (hf : Frm (fun q => q = g) w w1) (hx : Ext w1 w2) (h : LgPost (fun q => F q ∨ (w.heap.size ≤ q ∧ q < w1.heap.size)) g dp s w2 w3) : LgPost F g dp s w w3 := by
  have z1 := hf.size
  have z2 := hx.size
  have z3 := h.2.size
  refine ⟨h.1.keep rfl fun q hq _ => ⟨?_, rfl⟩, (hf.then_ext hx).trans h.2 fun q hq => .inl hq⟩
  rcases hq with (hq | hq) | hq
  · exact .inl hq
  · exact .inr ⟨hq.1, by omega⟩
  exact .inr ⟨by omega, hq.2⟩
theorem LgPost.same {F : Nat → Prop} {g : Nat} {dp : Value} {s : Wl} {w w1 : World} (h : LgB F w g dp s.v s.fr s.tt s.sz) (hx : Ext w w1) : LgPost F g dp s w w1 :=
  ⟨(h.below hx).keep rfl fun q hq _ => ⟨.inl hq, rfl⟩, Frm.of_ext hx _⟩
end Go.Proofs.YtikjckdoldiddaaGreatDoor

/- The walk of follow. Printed by gen_wf.py. -/
namespace Go.Proofs.YtikjckdoldiddaaGreatDoor
open Go.RowKit Go.Maps
set_option linter.unusedVariables false
set_option linter.unusedSimpArgs false
attribute [local go_sem] bmax2 bmin2 bmax_two bmin_two

theorem follow_cons (d : DS) (n : Nat) (r : List Nat) (s : Wl) : followS d (n :: r) s =
    if n ≠ s.tt + 1 ∨ segR d n = [] then s
    else if (s.grow (segR d n) 0).sz = 0 then { s.grow (segR d n) 0 with sz := s.sz }
    else if (s.grow (segR d n) 0).sz = (segB d n).length then followS d r { s.grow (segR d n) 0 with tt := n }
    else { s.grow (segR d n) 0 with tt := n } := rfl
set_option maxRecDepth 100000 in
set_option maxHeartbeats 8000000 in
theorem follow_any {D F N : Nat → Prop} {w : World} {g dg : Nat} {d : DS} {s : Wl} {m : Nat} (hd : DiskAt D w dg d) (hok : d.Ok) (hg : ¬ D g) (hT : TabP w) (hgp : g ≠ powG) (h : LgB F w g (.pointer (some ⟨dg, 0, none⟩)) s.v s.fr s.tt s.sz) (hf : s.v.Fine m) (hF : ¬ F g)
    {na : Option Addr} {nn nc : Nat} {l : List Nat} (hn : IsF N w na nn nc (l.map fun n : Nat => (n : Int))) (hN : ¬ N g) (hl : ∀ n ∈ l, n < 1000000000000) (hm : m + sumR d l ≤ 50000000) (htt : s.tt < 1000000000000) :
    Calls Tryz.prog 105 #[.pointer (some ⟨g, 0, none⟩), .slice na nn nc] w (fun e w' => e = .returned (.tuple #[]) ∧ LgPost F g (.pointer (some ⟨dg, 0, none⟩)) (followS d l s) w w') := by
  have hnl : nn = l.length := by rw [hn.1, List.length_map]
  have HNL := hid hnl
  have hnn : nn ≤ 17592186044416 := by have := hn.2.2.1.2; omega
  have HN := hid (fun W (hW : Frm (fun q => q = g) w W) => hn.keep (w' := W) (G := fun _ => True) fun q hq hl => ⟨trivial, hW.block q hl (fun e => hN (by have e : q = g := e; rw [← e]; exact hq))⟩)
  have HD := hid (fun W (hW : Frm (fun q => q = g) w W) => hd.frm hW fun q hq e => hg (by have e : q = g := e; rw [← e]; exact hq))
  have HT := hid (fun W (hW : Frm (fun q => q = g) w W) => hT.frm hW (fun e => hgp (by have e : powG = g := e; exact e.symm)))
  have HFG := hid hF
  have HOK := hid hok
  have HL := hid hl
  have H0 := hid h
  have HFI0 := hid hf
  have HG0 := hid h.lt
  have HM0 := hid hm
  obtain ⟨R, hR⟩ : ∃ R, R = followS d l s := ⟨_, rfl⟩
  rw [← hR]
  have HR := hid hR
  have HTT := hid htt
  clear hnl hn hd hT hgp hg hF hok hl h hf hm hR hN htt
  go_enter Tryz.func105, Tryz.ntmps105
  go_wp2
  go_loopw [5, 6, 7, 8, 9, 10, 11, 14] (fun _ _ _ _ _ _ _ z wr => ∃ (j : Nat) (s' : Wl) (m' : Nat), j ≤ nn ∧ z = .int .i64 (j : Int) ∧ Hid (LgB (fun q => F q ∨ (w.heap.size ≤ q ∧ q < wr.heap.size)) wr g (.pointer (some ⟨dg, 0, none⟩)) s'.v s'.fr s'.tt s'.sz) ∧ Hid (Frm (fun q => q = g) w wr) ∧ Hid (s'.v.Fine m' ∧ m' + sumR d (l.drop j) ≤ 50000000 ∧ s'.tt < 1000000000000) ∧ Hid (R = followS d (l.drop j) s')) (fun _ _ _ _ _ _ _ z _ => nn - (intOf z).toNat)
  case atStart => exact ⟨0, s, m, Nat.zero_le _, rfl, H0.out.keep rfl fun q hq _ => ⟨.inl hq, rfl⟩, Frm.refl _ _, ⟨HFI0.out, HM0.out, HTT.out⟩, HR.out⟩
  obtain ⟨j, s', m', hj, rfl, HLG, HFR, HFI, HEQ⟩ := hrel
  by_cases hlt : j < nn
  · have HLT := hid hlt
    obtain ⟨b, o, e, hbl, hjl, q, -⟩ := (HN.out wr HFR.out).at_ (k := j) hlt
    subst e
    have hjl : j < l.length := by rw [List.length_map] at hjl; exact hjl
    have hdr : l.drop j = l[j] :: l.drop (j + 1) := List.drop_eq_getElem_cons hjl
    have hln := HL.out l[j] (List.getElem_mem hjl)
    rw [List.getElem_map] at q
    obtain ⟨n, hne⟩ : ∃ n, n = l[j] := ⟨_, rfl⟩
    rw [← hne] at q hdr hln
    have heq := HEQ.out
    rw [hdr, follow_cons] at heq
    have hfi := HFI.out
    rw [hdr, sumR_cons] at hfi
    obtain ⟨sb1, sb2, sb3⟩ := seg_bound HOK.out n
    have hRE := fun W (hW : Ext wr W) => Read_at ((HD.out wr HFR.out).below hW) (fileW n) (by rw [fileW_len hln]; decide)
    have hNA := fun W (hW : Ext wr W) => nameW_any ((HT.out wr HFR.out).ext hW) hln
    have hrd : (d.read (fileW n)).1 = segB d n := rfl
    have hsr : segR d n = (rowsB (segB d n)).1 := rfl
    obtain ⟨f, hfe⟩ : ∃ f, f = fileW n := ⟨_, rfl⟩
    rw [← hfe] at hRE hNA hrd
    obtain ⟨B, hB⟩ : ∃ B, B = segB d n := ⟨_, rfl⟩
    rw [← hB] at hrd sb1 sb2 heq hsr
    obtain ⟨L, hL⟩ : ∃ L, L = segR d n := ⟨_, rfl⟩
    rw [← hL] at hsr sb2 sb3 heq hfi
    have HRE := hid hRE
    have HNA := hid hNA
    have HRD := hid hrd
    have HSR := hid hsr
    have HSB := hid (And.intro sb1 (And.intro sb2 sb3))
    have HQ := hid heq
    have HFJ := hid hfi
    have HLN := hid hln
    have HC := hid (fun W (hW : Ext wr W) => (HLG.out.below hW).cells)
    clear hdr hln heq hfi sb1 sb2 sb3 hRE hNA hrd hsr hB hL hne hfe hbl hjl
    go_wp2
    have y0 : Ext wr wr.drew := ext_drew wr
    refine wp_region_held_drew (S := fun W => Ext wr W) (by kernel_rfl) y0 (fun hH => ?_)
    clear hH
    refine held_run (i := 0) (v := .pointer (some ⟨g, 0, none⟩)) rfl (by kernel_rfl) (by kernel_rfl) (by kernel_rfl) (fun _ _ _ h => h) (by rfl) y0 (fun W hW => ?_) ?_
    · (clear hW; go_simp)
    try simp only [Act.put, List.setIfInBounds_toArray, List.set_cons_zero, List.set_cons_succ]
    refine held_run (i := 1) (v := .pointer (some ⟨g, 0, none⟩)) rfl (by kernel_rfl) (by kernel_rfl) (by kernel_rfl) (fun _ _ _ h => h) (by rfl) y0 (fun W hW => ?_) ?_
    · (clear hW; go_simp)
    try simp only [Act.put, List.setIfInBounds_toArray, List.set_cons_zero, List.set_cons_succ]
    refine held_run (i := 2) (v := .pointer (some ⟨g, 5, none⟩)) rfl (by kernel_rfl) (by kernel_rfl) (by kernel_rfl) (fun _ _ _ h => h) (by rfl) y0 (fun W hW => ?_) ?_
    · (clear hW; go_simp)
    try simp only [Act.put, List.setIfInBounds_toArray, List.set_cons_zero, List.set_cons_succ]
    refine held_run (i := 3) (v := .pointer (some ⟨dg, 0, none⟩)) rfl (by kernel_rfl) (by kernel_rfl) (by kernel_rfl) (fun _ _ _ h => h) (by rfl) y0 (fun W hW => ?_) ?_
    · (obtain ⟨hc, -⟩ := HC.out W hW; clear hW; go_simp)
    try simp only [Act.put, List.setIfInBounds_toArray, List.set_cons_zero, List.set_cons_succ]
    refine held_run (i := 4) (v := .int .i64 (n : Int)) rfl (by kernel_rfl) (by kernel_rfl) (by kernel_rfl) (fun _ _ _ h => h) (by rfl) y0 (fun W hW => ?_) ?_
    · (clear hW; go_simp)
    try simp only [Act.put, List.setIfInBounds_toArray, List.set_cons_zero, List.set_cons_succ]
    refine wpAnyH_ready (rs := [5]) (by kernel_rfl) (by simp) ?_
    refine held_cons (i := 5) rfl (fun K hK => ?_)
    go_simp
    go_at_call 61
    refine Calls.mono (HNA.out _ y0) ?_
    rintro e w1 ⟨rfl, hx1⟩
    have y1 : Ext wr w1 := y0.trans' hx1
    clear hx1
    dsimp only
    refine hK.out _ _ y1 (fun hH => ?_)
    clear hK K y0 hH
    have y0 := y1
    clear y1
    try simp only [Act.put, List.setIfInBounds_toArray, List.set_cons_zero, List.set_cons_succ]
    refine wpAnyH_ready (rs := [6]) (by kernel_rfl) (by simp) ?_
    refine held_cons (i := 6) rfl (fun K hK => ?_)
    go_simp
    go_at_call 97
    refine Calls.mono (HRE.out _ y0) ?_
    rintro e w2 ⟨ba, bk, bc, rfl, hb2, hx2⟩
    have y1 : Ext wr w2 := y0.trans' hx2
    rw [HRD.out] at hb2
    have HB2 := hid hb2
    clear hx2 hb2
    dsimp only
    refine hK.out _ _ y1 (fun hH => ?_)
    clear hK K y0 hH
    have y0 := y1
    clear y1
    try simp only [Act.put, List.setIfInBounds_toArray, List.set_cons_zero, List.set_cons_succ]
    generalize (d.read f).2 = rz at *
    refine held_run (i := 7) (v := .tuple #[.slice ba bk bc, .int .i64 rz]) rfl (by kernel_rfl) (by kernel_rfl) (by kernel_rfl) (fun _ _ _ h => h) (by rfl) y0 (fun W hW => ?_) ?_
    · (clear hW; go_simp)
    try simp only [Act.put, List.setIfInBounds_toArray, List.set_cons_zero, List.set_cons_succ]
    refine held_run (i := 8) (v := .slice ba bk bc) rfl (by kernel_rfl) (by kernel_rfl) (by kernel_rfl) (fun _ _ _ h => h) (by rfl) y0 (fun W hW => ?_) ?_
    · (clear hW; go_simp)
    try simp only [Act.put, List.setIfInBounds_toArray, List.set_cons_zero, List.set_cons_succ]
    refine held_run (i := 9) (v := .int .i64 rz) rfl (by kernel_rfl) (by kernel_rfl) (by kernel_rfl) (fun _ _ _ h => h) (by rfl) y0 (fun W hW => ?_) ?_
    · (clear hW; go_simp)
    try simp only [Act.put, List.setIfInBounds_toArray, List.set_cons_zero, List.set_cons_succ]
    refine held_run (i := 10) (v := .slice ba bk bc) rfl (by kernel_rfl) (by kernel_rfl) (by kernel_rfl) (fun _ _ _ h => h) (by rfl) y0 (fun W hW => ?_) ?_
    · (clear hW; go_simp)
    try simp only [Act.put, List.setIfInBounds_toArray, List.set_cons_zero, List.set_cons_succ]
    refine held_run (i := 11) (v := .int .i64 rz) rfl (by kernel_rfl) (by kernel_rfl) (by kernel_rfl) (fun _ _ _ h => h) (by rfl) y0 (fun W hW => ?_) ?_
    · (clear hW; go_simp)
    try simp only [Act.put, List.setIfInBounds_toArray, List.set_cons_zero, List.set_cons_succ]
    refine wpAnyH_done (by kernel_rfl) ?_ _
    have HX2 := hid y0
    clear y0
    have HROW := hid (RowsN_any HB2.out (by have := HSB.out.1; have := HB2.out.1; omega))
    go_wp2_with fail
    refine Calls.mono HROW.out ?_
    rintro e w3 ⟨ra, rn, rc, rfl, ho3, hx3⟩
    rw [← HSR.out] at ho3
    have HBS := hid (ho3.bs (by have := HSB.out.2.1; have := HSB.out.1; omega))
    have HX3 := hid (HX2.out.trans' hx3)
    have HZ2 := hid (show wr.heap.size ≤ w2.heap.size from HX2.out.size)
    have hrn : L.length = rn := HBS.out.1.symm
    have hbk : bk = B.length := HB2.out.1
    have HRN := hid (And.intro hrn hbk)
    obtain ⟨c5, c6, c7, c8, -⟩ := HC.out w3 HX3.out
    have HT2 := hid HFI.out.2.2
    have htt : IntKind.i64.wrap ((s'.tt : Int) + 1) = ((s'.tt + 1 : Nat) : Int) := by
      have := HT2.out
      rw [IntWalk.i64_in _ ⟨by omega, by omega⟩]; omega
    clear ho3 hx3 hrn hbk HROW
    by_cases hn1 : n = s'.tt + 1
    · subst hn1
      by_cases hr0 : rn = 0
      · subst hr0
        have HE := hid (show R = s' from by rw [HQ.out, if_pos (.inr (List.eq_nil_of_length_eq_zero HRN.out.1))])
        go_wp2
        refine bodyPost_ret (results_none rfl _ _ _) rfl ?_
        refine ⟨rfl, ?_⟩
        rw [HE.out]
        exact LgPost.next HFR.out (Below.refl _ _) (LgPost.same HLG.out HX3.out)
      have hrb : ((rn : Int) == 0) = false := by simp; omega
      have HL1 := hid (HLG.out.below HX3.out)
      have hNG : ¬ (F g ∨ (w.heap.size ≤ g ∧ g < wr.heap.size)) := fun h => by rcases h with h | h; exact HFG.out h; have := HG0.out; omega
      have HNG := hid hNG
      have HMO := hid (fun W (hW : Ext w3 W) => more_any (HL1.out.below hW) HFI.out.1 hNG (HBS.out.below hW) (show ¬ (w2.heap.size ≤ g) from fun h => by have := HG0.out; have := HFR.out.size; have := HZ2.out; omega) (by have := HFJ.out.2.1; omega) HSB.out.2.2 0 (Nat.zero_le _) ba bk bc)
      have HFN := hid (more_fine L s'.v m' HFI.out.1)
      have hq := HQ.out
      rw [if_neg (fun h => by rcases h with h | h; exact h rfl; exact hr0 (by rw [← HRN.out.1, h]; rfl))] at hq
      unfold Wl.grow at hq
      rw [List.drop_zero] at hq HMO
      dsimp only at hq
      obtain ⟨v2, hv2⟩ : ∃ v2, v2 = (s'.v.more L).1 := ⟨_, rfl⟩
      obtain ⟨z, hz⟩ : ∃ z, z = sizedB (L.take (0 + (s'.v.more L).2)) := ⟨_, rfl⟩
      rw [← hv2, ← hz] at hq HMO
      rw [← hv2] at HFN
      have HQ2 := hid hq
      clear hq hv2 hz HQ hr0 hNG
      go_wp2_with fail
      refine Calls.mono (HMO.out _ (Below.refl _ _)) ?_
      rintro e w4 ⟨rfl, hl4, hf4⟩
      have hp4 : LgPost F g (.pointer (some ⟨dg, 0, none⟩)) ⟨v2, s'.fr, s'.tt, z⟩ w w4 := LgPost.next HFR.out HX3.out ⟨hl4, hf4⟩
      obtain ⟨-, -, e7, e8, efz⟩ := hp4.1.cells
      have hgl4 := hp4.1.lt
      have HP4 := hid hp4
      have HN4 := hid (show ¬ (F g ∨ (w.heap.size ≤ g ∧ g < w4.heap.size)) from fun h => by rcases h with h | h; exact HFG.out h; have := HG0.out; omega)
      have f7 := efz 7
      have f8 := efz 8
      clear hl4 hf4 hp4 efz c5 c6 c7 c8
      by_cases hz0 : z = 0
      · subst hz0
        have HE := hid (show R = ⟨v2, s'.fr, s'.tt, s'.sz⟩ from by rw [HQ2.out, if_pos rfl])
        have HSET := hid (lg_set HP4.out.1 HN4.out)
        go_wp2
        refine bodyPost_ret (results_none rfl _ _ _) rfl ?_
        refine ⟨rfl, ?_⟩
        rw [HE.out]
        exact ⟨((HSET.out.1 s'.sz).2.2).keep rfl fun q hq _ => ⟨by rw [(HSET.out.2 8 _).2]; exact hq, rfl⟩, HP4.out.2.trans (HSET.out.2 8 _).1 fun q hq => .inl hq⟩
      have hzb : ((z : Int) == 0) = false := by simp; omega
      have hq := HQ2.out
      rw [if_neg hz0] at hq
      have HSET := hid (lg_set HP4.out.1 HN4.out)
      by_cases hzB : z = B.length
      · have hdz : decide (z = bk) = true := by simp; rw [HRN.out.2]; exact hzB
        rw [if_pos hzB] at hq
        have HE := hid hq
        clear hq hzB hz0
        go_wp2
        go_roundw
        case rel => exact ⟨j + 1, ⟨v2, s'.fr, s'.tt + 1, z⟩, m' + L.length, by have := HLT.out; omega, by go_num, ((HSET.out.1 (s'.tt + 1)).2.1).keep rfl fun q hq _ => ⟨by rw [(HSET.out.2 7 _).2]; exact hq, rfl⟩, HP4.out.2.trans (HSET.out.2 7 _).1 fun q hq => .inl hq, ⟨HFN.out, by have := HFJ.out.2.1; omega, HLN.out⟩, HE.out⟩
        case measure => have := HLT.out; simp [intOf]; omega
      have hdz : decide (z = bk) = false := by simp; rw [HRN.out.2]; exact hzB
      rw [if_neg hzB] at hq
      have HE := hid hq
      clear hq hzB hz0
      go_wp2
      refine bodyPost_ret (results_none rfl _ _ _) rfl ?_
      refine ⟨rfl, ?_⟩
      rw [HE.out]
      exact ⟨((HSET.out.1 (s'.tt + 1)).2.1).keep rfl fun q hq _ => ⟨by rw [(HSET.out.2 7 _).2]; exact hq, rfl⟩, HP4.out.2.trans (HSET.out.2 7 _).1 fun q hq => .inl hq⟩
    have hnb : ((n : Int) == (((s'.tt + 1 : Nat)) : Int)) = false := by simp; omega
    have hnc : ((n : Int) != (((s'.tt + 1 : Nat)) : Int)) = true := by simp; omega
    have HE := hid (show R = s' from by rw [HQ.out, if_pos (.inl hn1)])
    go_wp2
    refine bodyPost_ret (results_none rfl _ _ _) rfl ?_
    refine ⟨rfl, ?_⟩
    rw [HE.out]
    exact LgPost.next HFR.out (Below.refl _ _) (LgPost.same HLG.out HX3.out)
  have hjn : j = nn := by omega
  have HE := hid (show R = s' by rw [HEQ.out, hjn, List.drop_of_length_le (by have := HNL.out; omega)]; rfl)
  clear HEQ hjn
  go_wp2
  refine bodyPost_end (results_none rfl _ _ _) rfl ?_
  refine ⟨rfl, ?_⟩
  rw [HE.out]
  exact ⟨HLG.out, HFR.out⟩
end Go.Proofs.YtikjckdoldiddaaGreatDoor

/- Rows of segments' numbers. -/
namespace Go.Proofs.YtikjckdoldiddaaGreatDoor
open Go.RowKit Go.Maps
set_option linter.unusedVariables false
set_option linter.unusedSimpArgs false
attribute [local go_sem] bmax2 bmin2 bmax_two bmin_two

theorem info_int : (Tryz.prog.info? 3).map (fun i => (i.zero, i.size, i.bytes)) = some (some (.int .i64 0), 1, 8) := by kernel_rfl
def numV (n : Nat) : Value := .int .i64 (n : Int)
def OwnI (B : Nat) (w : World) (v : Value) (L : List Nat) : Prop := w.ownsRow B 3 1 v L.length (L.map numV)
theorem OwnI.nil_ (B : Nat) (w : World) : OwnI B w (.slice none 0 0) [] := World.ownsRow_nil _ _ _ _
theorem OwnI.ext {B : Nat} {w w' : World} {v : Value} {L : List Nat} (h : OwnI B w v L) (hx : Ext w w') : OwnI B w' v L := own_keep h fun q hq => hx.block q (own_cells h hq).1
theorem OwnI.slice_ {B : Nat} {w : World} {v : Value} {L : List Nat} (h : OwnI B w v L) : ∃ a c, v = .slice a L.length c := by
  rcases h.2 with ⟨e1, e2⟩ | ⟨g, c, cur, e1, -⟩
  · exact ⟨_, _, by rw [e1, e2]⟩
  exact ⟨_, _, e1⟩
theorem OwnI.is {B : Nat} {w : World} {a : Option Addr} {n c : Nat} {L : List Nat} (h : OwnI B w (.slice a n c) L) (hL : L.length ≤ 1000000000) (h64 : ∀ x ∈ L, x ≤ 9223372036854775807) : IsF (fun q => B ≤ q) w a n c (L.map fun n : Nat => (n : Int)) := by
  have hin : ∀ x ∈ (L.map fun n : Nat => (n : Int)), In64 x := fun x hx => by
    obtain ⟨m, hm, rfl⟩ := List.mem_map.1 hx
    have := h64 m hm
    exact ⟨by omega, by omega⟩
  obtain ⟨e0, e1 | ⟨g, cap, cur, e1, e2, e3, e4, e5, e6, e7⟩⟩ := h
  · obtain ⟨e1, e2⟩ := e1
    injection e1 with i1 i2 i3
    subst i1; subst i2; subst i3
    refine ⟨by rw [List.length_map]; exact e2.symm, Nat.le_refl _, ⟨by unfold maxLen; omega, by omega⟩, fun _ => rfl, hin, fun p hp => by cases hp⟩
  injection e1 with i1 i2 i3
  subst i1; subst i2; subst i3
  refine ⟨by rw [List.length_map], e4, ⟨e5, by omega⟩, (fun e => by cases e), hin, fun p hp => ?_⟩
  cases hp
  refine ⟨fun _ => rfl, fun k hk => ⟨e2, ?_⟩⟩
  rw [List.length_map] at hk
  have hq := congrArg (fun l => l[k]?) e7
  simp only [List.getElem?_take, Nat.mul_one] at hq
  rw [if_pos hk, List.getElem?_map, List.getElem?_eq_getElem hk] at hq
  unfold World.cell?
  simp only [e3, Nat.zero_add]
  simpa [Array.getElem?_toList, numV] using hq
theorem wpList_appI {w : World} {ops : Array Oper} {rest : List Oper} {o : Oper} {a : Act} {Q : Exit → Act → World → Prop} (hgd : o.guard = none) (s x : Operand)
    (ho : o.op = .call { callee := .builtin .append, args := #[s, x], argTypes := #[136, 136] })
    (B : Nat) (v : Value) (L : List Nat) (hs : a.eval s = v) (hown : OwnI B w v L) (g : Nat) (hx : a.eval x = .slice (some ⟨g, 0, none⟩) 1 1) (n : Nat)
    (hc : w.cell? ⟨g, 0, none⟩ = some (numV n)) (hlen : L.length ≤ 1000000000000) (hB : B ≤ w.heap.size)
    (h : ∀ v' w', OwnI B w' v' (L ++ [n]) → Below B w w' → wpList Tryz.prog ops Q rest (a.put o.dst v') w') : wpList Tryz.prog ops Q (o :: rest) a w := by
  obtain ⟨i, hi, hz, hz1, hz2⟩ := info_parts info_int
  refine wpList_append_own_at w hgd s x 136 ho B 3 i (.int .i64 0) 1 8 Tryz.underlying136 hi hz hz1 hz2 rfl (by decide) v L.length (L.map numV) hs hown ⟨g, 0, none⟩ 1 1 [numV n] hx rfl
    (fun j u hu => by
      cases j with
      | zero => have hu := Option.some.inj hu; subst hu; exact hc
      | succ j => cases (show (none : Option Value) = some u from hu)) (fun u hu => by rw [List.mem_singleton] at hu; subst hu; rfl) (by unfold maxLen; omega) (by omega) hB fun v' w' q1 q2 q3 q4 => ?_
  refine h v' w' ?_ ((Below.refl _ _).grown q2 hB fun q hq => ?_)
  · unfold OwnI
    rw [List.length_append, List.map_append]
    exact q1
  rcases hown.2 with ⟨e1, -⟩ | ⟨g1, c1, cur, e1, e2, -⟩
  · rw [e1] at hq; cases hq
  rw [e1] at hq; injection hq with hq; subst hq; exact e2
theorem elem_i (W : World) : (sizeOf (Tryz.prog.elem 136)).run Tryz.prog W = .ok 1 W := by kernel_rfl
theorem under_i : Tryz.prog.underlying 136 = some (.slice (Tryz.prog.elem 136)) := by kernel_rfl
theorem is_tail {F : Nat → Prop} {w : World} {a : Option Addr} {n c : Nat} {l : List Int} (h : IsF F w a n c l) (u : Nat) (hu : u ≤ n) :
    ∃ a' m k, (∀ W, (Instr.slice 136 (.slice a n c) (some (.int .i64 (u : Int))) none none).run Tryz.prog W = .ok (.slice a' m k) W) ∧
      (∀ W, (Instr.sliceAt 136 (.slice a n c) (some (.int .i64 (u : Int))) none none).run Tryz.prog W = .ok (.slice a' m k) W) ∧ IsF F w a' m k (l.drop u) := by
  obtain ⟨h1, h2, h3, h4, h6, h5⟩ := h
  have hr : ∀ W, (Instr.slice 136 (.slice a n c) (some (.int .i64 (u : Int))) none none).run Tryz.prog W = .ok (sliced a u n c 1) W := fun W => by
    rw [run_slice_l W 136 a n c under_i .i64 u (by omega) (by omega), elem_i]
    rfl
  refine ⟨_, _, _, hr, fun W => (run_sliceAt_slice W _ _ _ _ _ under_i).trans (hr W), ?_⟩
  refine ⟨by rw [List.length_drop]; omega, by omega, ⟨by omega, by omega⟩, fun e => ?_, fun x hx => h6 x (List.mem_of_mem_drop hx), fun p hp => ?_⟩
  · split at e
    · omega
    cases a with
    | none => have := h4 rfl; omega
    | some p => cases e
  split at hp
  · rename_i e
    refine ⟨fun hc => by omega, fun k hk => by rw [List.length_drop] at hk; omega⟩
  cases a with
  | none => cases hp
  | some q =>
    obtain ⟨h6, h7⟩ := h5 q rfl
    obtain ⟨qb, qo, qs⟩ := q
    obtain rfl : qs = none := h6 (by omega)
    have hadd : (⟨qb, qo, none⟩ : Addr).add (u * 1) = ⟨qb, qo + u * 1, none⟩ := by
      unfold Addr.add
      split
      · rename_i e; rw [e]; rfl
      rfl
    rw [Option.map_some, hadd] at hp
    cases hp
    refine ⟨fun hc => rfl, fun k hk => ?_⟩
    rw [List.length_drop] at hk
    obtain ⟨f, e1⟩ := h7 (u + k) (by omega)
    refine ⟨f, ?_⟩
    have hg : (l.drop u)[k]'(by rw [List.length_drop]; omega) = l[u + k]'(by omega) := List.getElem_drop
    rw [hg, ← e1]
    show w.cell? ⟨qb, qo + u * 1 + k, none⟩ = w.cell? ⟨qb, qo + (u + k), none⟩
    rw [show qo + u * 1 + k = qo + (u + k) by omega]
/-- Which files a log's disk has. -/
structure DS.Segs (d : DS) (l : List Nat) : Prop where
  list : d.list = l.map fileW
  num : ∀ n ∈ l, 1 ≤ n ∧ n < 1000000000000
  many : l.length ≤ 4096
  sum : sumR d l ≤ 4000000
/-- The newest segment that stands alone, of the first k. -/
def scanS (d : DS) (l : List Nat) : Nat → Wl
  | 0 => wl0
  | k + 1 =>
    if (beginW (segR d (l.getD k 0))).2 = 0 then scanS d l k
    else if ((⟨(beginW (segR d (l.getD k 0))).1, l.getD k 0, l.getD k 0, 0⟩ : Wl).grow (segR d (l.getD k 0)) (beginW (segR d (l.getD k 0))).2).sz = (segB d (l.getD k 0)).length
      then followS d (l.drop (k + 1)) ((⟨(beginW (segR d (l.getD k 0))).1, l.getD k 0, l.getD k 0, 0⟩ : Wl).grow (segR d (l.getD k 0)) (beginW (segR d (l.getD k 0))).2)
      else (⟨(beginW (segR d (l.getD k 0))).1, l.getD k 0, l.getD k 0, 0⟩ : Wl).grow (segR d (l.getD k 0)) (beginW (segR d (l.getD k 0))).2
def readS (d : DS) (l : List Nat) : Wl := scanS d l l.length
theorem goWV_le : ∀ (L : List By) (k : Nat) (v : Wv), (goWV k v L).2 ≤ k + 1 + L.length := by
  intro L
  induction L with
  | nil => intro k v; exact Nat.zero_le _
  | cons b r ih =>
    intro k v
    rw [goWV_cons]
    split
    · simp only [List.length_cons]; omega
    split
    · exact Nat.zero_le _
    have := ih (k + 1) (by assumption); simp only [List.length_cons]; omega
theorem goWV_fine : ∀ (L : List By) (k : Nat) (v : Wv) (m : Nat), v.Fine m → (goWV k v L).1.Fine (m + L.length) := by
  have h0 : ∀ m, wv0.Fine m := fun m => ⟨⟨⟨by decide, by decide⟩, ⟨by decide, by decide⟩, ⟨by decide, by decide⟩, ⟨by decide, by decide⟩⟩, ⟨by decide, by decide⟩, Nat.zero_le _, fun x hx => by cases hx⟩
  intro L
  induction L with
  | nil => intro k v m h; exact h0 _
  | cons b r ih =>
    intro k v m h
    rw [goWV_cons]
    split
    · exact h.le (by omega)
    split
    · exact h0 _
    rename_i v' hv; exact (ih (k + 1) v' _ (h.take hv)).le (by simp only [List.length_cons]; omega)
theorem begin_ok (L : List By) : (beginW L).2 ≤ L.length ∧ (beginW L).1.Fine L.length := by
  have h0 : ∀ m, wv0.Fine m := fun m => ⟨⟨⟨by decide, by decide⟩, ⟨by decide, by decide⟩, ⟨by decide, by decide⟩, ⟨by decide, by decide⟩⟩, ⟨by decide, by decide⟩, Nat.zero_le _, fun x hx => by cases hx⟩
  cases L with
  | nil => exact ⟨Nat.zero_le _, h0 _⟩
  | cons b r =>
    unfold beginW
    dsimp only
    split
    · rename_i h
      obtain ⟨-, -, h1, h2⟩ := h
      have i1 := within_big h1
      have i2 := within_big h2
      refine ⟨?_, (goWV_fine r 0 _ 0 ⟨⟨⟨by show _ ≤ (0 : Int); omega, by show (0 : Int) ≤ _; omega⟩, ⟨by show _ ≤ (0 : Int); omega, by show (0 : Int) ≤ _; omega⟩, ⟨by show _ ≤ ((_ : Nat) : Int); omega, by show ((_ : Nat) : Int) ≤ _; omega⟩, ⟨by show _ ≤ ((_ : Nat) : Int); omega, by show ((_ : Nat) : Int) ≤ _; omega⟩⟩, i1, Nat.zero_le _, fun x hx => by cases hx⟩).le (by simp only [List.length_cons]; omega)⟩
      have := goWV_le r 0 ⟨0, 0, ((⟨b, 0, 0⟩ : Sc).num.2.num.1 : Int), ((⟨b, 0, 0⟩ : Sc).num.2.num.2.num.1 : Int), []⟩
      simp only [List.length_cons]; omega
    exact ⟨Nat.zero_le _, h0 _⟩
end Go.Proofs.YtikjckdoldiddaaGreatDoor
