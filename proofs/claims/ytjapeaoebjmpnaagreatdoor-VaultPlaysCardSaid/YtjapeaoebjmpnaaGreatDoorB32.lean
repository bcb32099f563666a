/- The reference's files and acts in memory. Printed by gen_rd1.py. -/
import Derived.Test.YtjapeaoebjmpnaaGreatDoorB31
import Derived.Test.YtjapeaoebjmpnaaGreatDoorB16
namespace Go.Proofs.YtjapeaoebjmpnaaGreatDoor
open Go.RowKit Go.Maps
set_option linter.unusedVariables false
set_option linter.unusedSimpArgs false
structure FH where
  nm : Nm
  a : Option Addr
  n : Nat
  c : Nat
def FH.cells (h : FH) : List Value := [.string ⟨h.nm.toArray⟩, .slice h.a h.n h.c]
def rawF (H : List FH) : List Value := H.flatMap FH.cells
theorem rawF_append (H K : List FH) : rawF (H ++ K) = rawF H ++ rawF K := by simp [rawF]
theorem rawF_one (h : FH) : rawF [h] = h.cells := by simp [rawF]
theorem rawF_get (H : List FH) : ∀ (k j : Nat), j < 2 → (rawF H)[k * 2 + j]? = (H[k]?).bind fun h => h.cells[j]? := by
  induction H with
  | nil => intro k j _; rfl
  | cons h t ih =>
    intro k j hj
    show (h.cells ++ rawF t)[k * 2 + j]? = _
    cases k with
    | zero =>
      rw [List.getElem?_append_left (by show _ < 2; omega)]
      simp
    | succ k =>
      rw [List.getElem?_append_right (by show 2 ≤ _; omega)]
      have e : (k + 1) * 2 + j - h.cells.length = k * 2 + j := by show (k + 1) * 2 + j - 2 = _; omega
      rw [e, ih k j hj]
      rfl
structure RH where
  k : Int
  nm : Nm
  to_ : Nm
  at_ : Int
  a : Option Addr
  n : Nat
  c : Nat
def RH.cells (h : RH) : List Value := [.int .i64 h.k, .string ⟨h.nm.toArray⟩, .string ⟨h.to_.toArray⟩, .int .i64 h.at_, .slice h.a h.n h.c]
def rawR (H : List RH) : List Value := H.flatMap RH.cells
theorem rawR_append (H K : List RH) : rawR (H ++ K) = rawR H ++ rawR K := by simp [rawR]
theorem rawR_one (h : RH) : rawR [h] = h.cells := by simp [rawR]
theorem rawR_get (H : List RH) : ∀ (k j : Nat), j < 5 → (rawR H)[k * 5 + j]? = (H[k]?).bind fun h => h.cells[j]? := by
  induction H with
  | nil => intro k j _; rfl
  | cons h t ih =>
    intro k j hj
    show (h.cells ++ rawR t)[k * 5 + j]? = _
    cases k with
    | zero =>
      rw [List.getElem?_append_left (by show _ < 5; omega)]
      simp
    | succ k =>
      rw [List.getElem?_append_right (by show 5 ≤ _; omega)]
      have e : (k + 1) * 5 + j - h.cells.length = k * 5 + j := by show (k + 1) * 5 + j - 5 = _; omega
      rw [e, ih k j hj]
      rfl
/-! ### files -/
def FhF (F : Nat → Prop) (w : World) : List FH → Tab → Prop
  | [], [] => True
  | h :: H, p :: T => (h.nm = p.1 ∧ ByF F w h.a h.n h.c p.2) ∧ FhF F w H T
  | _, _ => False
theorem FhF.keep {F G : Nat → Prop} {w w' : World} (hf : ∀ k, F k → k < w.heap.size → G k ∧ w'.heap[k]? = w.heap[k]?) : ∀ {H : List FH} {T : Tab}, FhF F w H T → FhF G w' H T := by
  intro H
  induction H with
  | nil => intro T h; cases T with
    | nil => exact trivial
    | cons p T => exact h.elim
  | cons x H ih => intro T h; cases T with
    | nil => exact h.elim
    | cons p T => exact ⟨⟨h.1.1, h.1.2.keep hf⟩, ih h.2⟩
theorem FhF.len {F : Nat → Prop} {w : World} : ∀ {H : List FH} {T : Tab}, FhF F w H T → H.length = T.length := by
  intro H
  induction H with
  | nil => intro T h; cases T with
    | nil => rfl
    | cons p T => exact h.elim
  | cons x H ih => intro T h; cases T with
    | nil => exact h.elim
    | cons p T => rw [List.length_cons, List.length_cons, ih h.2]
theorem FhF.snoc {F : Nat → Prop} {w : World} {x : FH} {p : Nm × By} (hx : x.nm = p.1 ∧ ByF F w x.a x.n x.c p.2) : ∀ {H : List FH} {T : Tab}, FhF F w H T → FhF F w (H ++ [x]) (T ++ [p]) := by
  intro H
  induction H with
  | nil => intro T h; cases T with
    | nil => exact ⟨hx, trivial⟩
    | cons q T => exact h.elim
  | cons y H ih => intro T h; cases T with
    | nil => exact h.elim
    | cons q T => exact ⟨h.1, ih h.2⟩
theorem FhF.at_ {F : Nat → Prop} {w : World} : ∀ {H : List FH} {T : Tab}, FhF F w H T → ∀ k (h1 : k < H.length) (h2 : k < T.length), H[k].nm = T[k].1 ∧ ByF F w H[k].a H[k].n H[k].c T[k].2 := by
  intro H
  induction H with
  | nil => intro T h k h1; cases h1
  | cons y H ih => intro T h k h1 h2; cases T with
    | nil => cases h2
    | cons q T =>
      cases k with
      | zero => exact h.1
      | succ k => exact ih h.2 k (by simpa using h1) (by simpa using h2)
/-- One file's two cells. -/
def FlAt (F : Nat → Prop) (w : World) (b o : Nat) (p : Nm × By) : Prop :=
  w.cell? ⟨b, o, none⟩ = some (.string ⟨p.1.toArray⟩) ∧ ∃ a n c, w.cell? ⟨b, o + 1, none⟩ = some (.slice a n c) ∧ ByF F w a n c p.2
theorem FlAt.keep {F G : Nat → Prop} {w w' : World} {b o : Nat} {p : Nm × By} (h : FlAt F w b o p) (hb : w'.heap[b]? = w.heap[b]?) (hf : ∀ k, F k → k < w.heap.size → G k ∧ w'.heap[k]? = w.heap[k]?) : FlAt G w' b o p := by
  obtain ⟨h1, a, n, c, h2, h3⟩ := h
  exact ⟨(World.cell?_of_block (w := w) hb).trans h1, a, n, c, (World.cell?_of_block (w := w) hb).trans h2, h3.keep hf⟩
/-- Files that lie in memory. -/
def FsF (F : Nat → Prop) (w : World) (a : Option Addr) (n c : Nat) (T : Tab) : Prop :=
  n = T.length ∧ n ≤ c ∧ (c ≤ maxLen ∧ n ≤ 10000) ∧ (a = none → c = 0) ∧
  ∀ p, a = some p → (0 < c → p.spot = none) ∧ ∀ k, (h : k < T.length) → F p.block ∧ FlAt F w p.block (p.off + k * 2) T[k]
theorem FsF.keep {F G : Nat → Prop} {w w' : World} {a : Option Addr} {n c : Nat} {T : Tab} (h : FsF F w a n c T) (hf : ∀ k, F k → k < w.heap.size → G k ∧ w'.heap[k]? = w.heap[k]?) : FsF G w' a n c T := by
  obtain ⟨h1, h2, h3, h4, h5⟩ := h
  refine ⟨h1, h2, h3, h4, fun p hp => ⟨(h5 p hp).1, fun k hk => ?_⟩⟩
  obtain ⟨h6, h7⟩ := (h5 p hp).2 k hk
  have hl := World.block_lt_of_cell? w _ h7.1
  exact ⟨(hf _ h6 hl).1, h7.keep (hf _ h6 hl).2 hf⟩
theorem FsF.below {F : Nat → Prop} {w w' : World} {a : Option Addr} {n c : Nat} {T : Tab} (h : FsF F w a n c T) (hx : Ext w w') : FsF F w' a n c T := h.keep fun k hk hl => ⟨hk, hx.block k hl⟩
theorem FsF.more {F G : Nat → Prop} {w : World} {a : Option Addr} {n c : Nat} {T : Tab} (h : FsF F w a n c T) (hg : ∀ k, F k → G k) : FsF G w a n c T := h.keep fun k hk _ => ⟨hg k hk, rfl⟩
theorem FsF.nil_ (F : Nat → Prop) (w : World) : FsF F w none 0 0 [] := ⟨rfl, by simp, by simp, fun _ => rfl, fun p hp => by cases hp⟩
theorem FsF.at_ {F : Nat → Prop} {w : World} {a : Option Addr} {n c : Nat} {T : Tab} (h : FsF F w a n c T) {k : Nat} (hk : k < n) : ∃ b o, a = some ⟨b, o, none⟩ ∧ F b ∧ b < w.heap.size ∧ ∃ hl : k < T.length, FlAt F w b (o + k * 2) T[k] := by
  obtain ⟨rfl, h2, h3, h4, h5⟩ := h
  cases a with
  | none => have := h4 rfl; omega
  | some p =>
    obtain ⟨b, o, s⟩ := p
    have hs : s = none := (h5 _ rfl).1 (by omega)
    subst hs
    obtain ⟨h6, h7⟩ := (h5 _ rfl).2 k hk
    exact ⟨b, o, rfl, h6, World.block_lt_of_cell? w _ h7.1, hk, h7⟩
theorem info_file : (Tryz.prog.info? 147).map (fun i => (i.zero, i.size, i.bytes)) = some (some (.agg #[.string ⟨#[]⟩, .slice none 0 0]), 2, 40) := by kernel_rfl
/-- Files of the call's own. -/
def OwnF (B : Nat) (F : Nat → Prop) (w : World) (v : Value) (T : Tab) : Prop := ∃ H, w.ownsRow B 147 2 v T.length (rawF H) ∧ FhF F w H T ∧ ∀ q, F q → some q ≠ v.ownBlock
theorem OwnF.slice_ {B : Nat} {F : Nat → Prop} {w : World} {v : Value} {T : Tab} (h : OwnF B F w v T) : ∃ a c, v = .slice a T.length c := by
  obtain ⟨H, hr, -⟩ := h
  rcases hr.2 with ⟨rfl, e⟩ | ⟨g, cap, cur, rfl, -⟩
  · exact ⟨none, 0, by rw [e]⟩
  exact ⟨_, _, rfl⟩
theorem OwnF.nil_ (B : Nat) (F : Nat → Prop) (w : World) : OwnF B F w (.slice none 0 0) [] := ⟨[], World.ownsRow_nil _ _ _ _, trivial, fun q _ e => by cases e⟩
theorem OwnF.fs {B : Nat} {F : Nat → Prop} {w : World} {a : Option Addr} {n c : Nat} {T : Tab} (h : OwnF B F w (.slice a n c) T) (hT : T.length ≤ 10000) : FsF (fun q => F q ∨ (B ≤ q ∧ q < w.heap.size)) w a n c T := by
  obtain ⟨H, hr, hf, -⟩ := h
  have hlen := hf.len
  rcases hr.2 with ⟨e, e2⟩ | ⟨g, cap, cur, e, hb, hg, hle, hcap, hsz, htake⟩
  · injection e with e1 e3 e4
    subst e1; subst e3; subst e4
    have : T = [] := List.eq_nil_of_length_eq_zero e2
    subst this
    exact FsF.nil_ _ _
  injection e with e1 e3 e4
  subst e1; subst e3; subst e4
  refine ⟨rfl, hle, ⟨hcap, hT⟩, (fun e => by cases e), fun p hp => ?_⟩
  cases hp
  refine ⟨fun _ => rfl, fun k hk => ⟨.inr ⟨hb, (Array.getElem?_eq_some_iff.1 hg).1⟩, ?_⟩⟩
  have hk2 : k < H.length := by omega
  obtain ⟨f1, f2⟩ := hf.at_ k hk2 hk
  have hc : ∀ j, j < 2 → w.cell? ⟨g, 0 + k * 2 + j, none⟩ = (H[k]).cells[j]? := fun j hj => by
    rw [Nat.zero_add, hr.cellAt (k * 2 + j) (by omega), rawF_get H k j hj, List.getElem?_eq_getElem hk2]
    rfl
  have h0 := hc 0 (by omega)
  have h1 := hc 1 (by omega)
  simp only [FH.cells, List.getElem?_cons_zero, List.getElem?_cons_succ] at h0 h1
  rw [f1] at h0
  exact ⟨h0, _, _, _, h1, f2.more fun q hq => .inl hq⟩
/-- A file behind files of the call's own. -/
theorem wpList_appF {F : Nat → Prop} {w : World} {ops : Array Oper} {rest : List Oper} {o : Oper} {a : Act} {Q : Exit → Act → World → Prop} (hgd : o.guard = none) (s x : Operand)
    (ho : o.op = .call { callee := .builtin .append, args := #[s, x], argTypes := #[64, 64] })
    (B : Nat) (v : Value) (T : Tab) (hs : a.eval s = v) (hown : OwnF B F w v T) (g : Nat) (hx : a.eval x = .slice (some ⟨g, 0, none⟩) 1 1) (nm : Nm) (da : Option Addr) (dn dc : Nat) (d : By)
    (hr : RowAt w (some ⟨g, 0, none⟩) 1 2 [.string ⟨nm.toArray⟩, .slice da dn dc]) (hd : ByF F w da dn dc d) (hT : T.length ≤ 9000) (hB : B ≤ w.heap.size) (hF : ∀ q, F q → q < B)
    (h : ∀ a' c' w', OwnF B F w' (.slice a' (T.length + 1) c') (T ++ [(nm, d)]) → Below B w w' → (∀ q, q < w.heap.size → v.ownBlock ≠ some q → w'.heap[q]? = w.heap[q]?) → wpList Tryz.prog ops Q rest (a.put o.dst (.slice a' (T.length + 1) c')) w') : wpList Tryz.prog ops Q (o :: rest) a w := by
  obtain ⟨H, hrow, hf, hne⟩ := hown
  refine wpList_append_row hgd s x _ ho B 147 (.agg #[.string ⟨#[]⟩, .slice none 0 0]) 2 40 Tryz.underlying64 info_file rfl (by decide) v T.length (rawF H) hs hrow (some ⟨g, 0, none⟩) 1 1 _ hx (fun e => by cases e) hr
    (fun u hu => by
      simp only [List.mem_cons, List.not_mem_nil, or_false] at hu
      rcases hu with rfl | rfl <;> rfl) (by unfold maxLen; omega) (by omega) hB fun v' w' h1 h2 => ?_
  have hb : Below B w w' := (Below.refl _ _).grown h2 hB fun k hk => (hrow.lt k hk).1
  have hkeep : ∀ q, F q → q < w.heap.size → w'.heap[q]? = w.heap[q]? := fun q hq hl => h2.block q hl fun e => hne q hq e
  obtain ⟨a', c', rfl⟩ : ∃ a' c', v' = .slice a' (T.length + 1) c' := by
    rcases h1.2 with ⟨-, e⟩ | ⟨g', cap, cur, rfl, -⟩
    · omega
    exact ⟨_, _, rfl⟩
  refine h a' c' w' ⟨H ++ [⟨nm, da, dn, dc⟩], ?_, ?_, fun q hq e => ?_⟩ hb fun q hq hne2 => h2.block q hq fun e => hne2 e.symm
  · rw [rawF_append, rawF_one, List.length_append]; exact h1
  · exact (hf.keep fun q hq hl => ⟨hq, hkeep q hq hl⟩).snoc ⟨rfl, hd.keep fun q hq hl => ⟨hq, hkeep q hq hl⟩⟩
  have h3 := (h1.lt q e.symm).1
  have := hF q hq
  omega
theorem OwnF.lt {B : Nat} {F : Nat → Prop} {w : World} {v : Value} {T : Tab} (h : OwnF B F w v T) : ∀ q, v.ownBlock = some q → B ≤ q ∧ q < w.heap.size := by
  obtain ⟨H, h1, -⟩ := h
  exact h1.lt
theorem OwnF.ext {B : Nat} {F : Nat → Prop} {w w' : World} {v : Value} {T : Tab} (h : OwnF B F w v T) (hx : Ext w w') : OwnF B F w' v T := by
  obtain ⟨H, h1, h2, h3⟩ := h
  exact ⟨H, own_keep h1 fun q hq => hx.block q (own_cells h1 hq).1, h2.keep fun q hq hl => ⟨hq, hx.block q hl⟩, h3⟩
end Go.Proofs.YtjapeaoebjmpnaaGreatDoor

/- The walks of the reference's get and less. -/
namespace Go.Proofs.YtjapeaoebjmpnaaGreatDoor
open Go.RowKit Go.Maps
set_option linter.unusedVariables false
set_option linter.unusedSimpArgs false
attribute [local go_sem] bmax2 bmin2 bmax_two bmin_two

theorem rnews_row (w : World) (cs : List Value) (n size : Nat) (t : TypeId) (hn : cs.length = n * size) : RowAt (w.alloc (.cells cs.toArray t)) (some ⟨w.heap.size, 0, none⟩) n size cs := by
  refine ⟨hn, (fun e => by cases e), fun p hp j u hu => ?_⟩
  cases hp
  rw [add_lit, Nat.zero_add, cell_of_row _ w.heap.size j cs.toArray t (0, 0) (heap_alloc_new w _)]
  simpa using hu
theorem tGet_cons (p : Nm × By) (T : Tab) (n : Nm) : tGet (p :: T) n = if (p.1 == n) = true then some p.2 else tGet T n := by
  unfold tGet
  rw [List.find?_cons]
  split
  · rename_i h
    rw [if_pos h]; rfl
  rename_i h
  rw [if_neg (by simpa using h)]
def GetPost (F : Nat → Prop) (r : Option By) (w : World) (e : Ending) (w' : World) : Prop :=
  Ext w w' ∧ ((r = none ∧ e = .returned (.tuple #[.slice none 0 0, .bool false])) ∨ ∃ b a n c, r = some b ∧ e = .returned (.tuple #[.slice a n c, .bool true]) ∧ ByF F w' a n c b)
set_option maxRecDepth 100000 in
set_option maxHeartbeats 4000000 in
theorem Rget_any {F : Nat → Prop} {w : World} {a : Option Addr} {n c : Nat} {T : Tab} (h : FsF F w a n c T) (nm : Nm) :
    Calls Tryz.prog 68 #[.slice a n c, .string ⟨nm.toArray⟩] w (GetPost F (tGet T nm) w) := by
  have hn := h.1
  have hn2 := h.2.2.1.2
  have HB := hid h
  have HN := hid hn
  obtain ⟨R, hR⟩ : ∃ R, R = tGet T nm := ⟨_, rfl⟩
  rw [← hR]
  have HR := hid hR
  clear h hn hR
  go_enter Tryz.func68, Tryz.ntmps68
  go_wp2
  go_loopw [7, 10] (fun _ z wr => ∃ (k : Nat), k ≤ n ∧ z = .int .i64 (k : Int) ∧ Hid (R = tGet (T.drop k) nm) ∧ Hid (Ext w wr)) (fun _ z _ => n - (intOf z).toNat)
  case atStart => exact ⟨0, Nat.zero_le _, rfl, HR, Below.refl _ _⟩
  obtain ⟨k, hk, rfl, HK, HX⟩ := hrel
  by_cases hlt : k < n
  · obtain ⟨b, o, rfl, -, hbl, hkl, q0, va, vn, vc, q1, hby⟩ := (HB.out.below HX.out).at_ hlt
    have hdr : T.drop k = T[k] :: T.drop (k + 1) := List.drop_eq_getElem_cons hkl
    have hst : R = if (T[k].1 == nm) = true then some T[k].2 else tGet (T.drop (k + 1)) nm := by rw [HK.out, hdr, tGet_cons]
    generalize T[k] = p at *
    obtain ⟨pn, pb⟩ := p
    dsimp only at q0 hby hst
    have hki : (k : Int) < (n : Int) := by omega
    have hki0 : (0 : Int) ≤ (k : Int) := by omega
    have HBY := hid hby
    have x1 := ext_alloc wr (.cells #[.string ⟨pn.toArray⟩, .slice va vn vc] 147)
    have HX1 := hid (HX.out.trans' x1)
    have HB1 := hid (hby.below x1)
    clear hdr hby x1 HK
    by_cases hb : (pn == nm) = true
    · rw [if_pos hb] at hst
      have HST := hid hst
      clear hst
      go_wp2
      go_ret2
      exact ⟨HX1.out, .inr ⟨pb, va, vn, vc, HST.out, rfl, HB1.out⟩⟩
    rw [if_neg hb] at hst
    have HST := hid hst
    have hb2 : (pn == nm) = false := by simpa using hb
    clear hst hb
    go_wp2
    go_roundw
    case rel => exact ⟨k + 1, by omega, by go_num, HST.out, HX1.out⟩
    case measure => simp [intOf]; omega
  have hkn : k = n := by omega
  have HST := hid (show R = none by rw [HK.out, hkn, HN.out, List.drop_length]; rfl)
  subst hkn
  clear HK
  go_wp2
  go_ret2
  exact ⟨HX.out, .inl ⟨HST.out, rfl⟩⟩
/-- Files in memory: the arguments' and what was made behind w. -/
def FsPost (F : Nat → Prop) (T : Tab) (w : World) (e : Ending) (w' : World) : Prop := ∃ a n c, e = .returned (.slice a n c) ∧ FsF (fun q => F q ∨ (w.heap.size ≤ q ∧ q < w'.heap.size)) w' a n c T ∧ Ext w w'
theorem tDel_snoc (T : Tab) (p : Nm × By) (nm : Nm) : tDel (T ++ [p]) nm = if (p.1 == nm) = true then tDel T nm else tDel T nm ++ [p] := by
  unfold tDel
  rw [List.filter_append]
  split
  · rename_i h; simp [h]
  rename_i h; simp [h]
set_option maxRecDepth 100000 in
set_option maxHeartbeats 4000000 in
theorem Rless_any {F : Nat → Prop} {w : World} {a : Option Addr} {n c : Nat} {T : Tab} (h : FsF F w a n c T) (hT : T.length ≤ 8000) (nm : Nm) :
    Calls Tryz.prog 126 #[.slice a n c, .string ⟨nm.toArray⟩] w (FsPost F (tDel T nm) w) := by
  have hn := h.1
  have hn2 := h.2.2.1.2
  have HB := hid (show FsF (fun q => F q ∧ q < w.heap.size) w a n c T from h.keep fun q hq hl => ⟨⟨hq, hl⟩, rfl⟩)
  have HN := hid hn
  have HT := hid hT
  clear h hn hT
  go_enter Tryz.func126, Tryz.ntmps126
  go_wp2
  go_loopw [5, 7, 10] (fun v _ z wr => ∃ (k : Nat) (O : Tab), k ≤ n ∧ z = .int .i64 (k : Int) ∧ Hid (O = tDel (T.take k) nm) ∧ Hid (O.length ≤ 8000) ∧ Hid (OwnF w.heap.size (fun q => F q ∧ q < w.heap.size) wr v O) ∧ Hid (Ext w wr)) (fun _ _ z _ => n - (intOf z).toNat)
  case atStart => exact ⟨0, [], Nat.zero_le _, rfl, hid (by rfl), hid (Nat.zero_le _), OwnF.nil_ _ _ _, Below.refl _ _⟩
  obtain ⟨k, O, hk, rfl, HK, HL, HO, HX⟩ := hrel
  by_cases hlt : k < n
  · obtain ⟨b, o, rfl, -, hbl, hkl, q0, va, vn, vc, q1, hby⟩ := (HB.out.below HX.out).at_ hlt
    have hst : T.take (k + 1) = T.take k ++ [T[k]] := List.take_succ_eq_append_getElem hkl
    have hdel : tDel (T.take (k + 1)) nm = if (T[k].1 == nm) = true then O else O ++ [T[k]] := by rw [hst, tDel_snoc, ← HK.out]
    have hlen : (tDel (T.take (k + 1)) nm).length ≤ 8000 := by
      have h1 := tDel_len (T.take (k + 1)) nm
      rw [List.length_take] at h1
      have := HT.out
      omega
    have HLEN := hid hlen
    generalize T[k] = p at *
    obtain ⟨pn, pb⟩ := p
    dsimp only at q0 hby hdel
    have hki : (k : Int) < (n : Int) := by omega
    have hki0 : (0 : Int) ≤ (k : Int) := by omega
    have x1 := ext_alloc wr (.cells #[.string ⟨pn.toArray⟩, .slice va vn vc] 147)
    have HX1 := hid (HX.out.trans' x1)
    have HO1 := hid (HO.out.ext x1)
    have HB1 := hid (hby.below x1)
    clear hst hby x1 HK hlen
    obtain ⟨av, ac, rfl⟩ := HO.out.slice_
    by_cases hb : (pn == nm) = true
    · rw [if_pos hb] at hdel
      have HST := hid hdel.symm
      clear hdel
      go_wp2
      go_roundw
      case rel => exact ⟨k + 1, O, by omega, by go_num, HST.out, HL.out, HO1.out, HX1.out⟩
      case measure => simp [intOf]; omega
    rw [if_neg hb] at hdel
    have HST := hid hdel.symm
    have hb2 : (pn == nm) = false := by simpa using hb
    have x2 := ext_alloc (wr.alloc (.cells #[.string ⟨pn.toArray⟩, .slice va vn vc] 147)) (.cells #[.string ⟨pn.toArray⟩, .slice va vn vc] 147)
    have HX2 := hid (HX1.out.trans' x2)
    have HO2 := hid (HO1.out.ext x2)
    have HB2 := hid (HB1.out.below x2)
    have hrow := rnews_row (wr.alloc (.cells #[.string ⟨pn.toArray⟩, .slice va vn vc] 147)) [.string ⟨pn.toArray⟩, .slice va vn vc] 1 2 147 rfl
    rw [World.size_alloc] at hrow
    have HROW := hid hrow
    clear hdel hb x2 hrow
    go_wp2_with (at_builtin; refine wpList_appF rfl (.tmp 18) (.tmp 20) rfl w.heap.size _ O rfl HO2.out (wr.heap.size + 1) rfl pn va vn vc pb HROW.out HB2.out (by have := HL.out; omega) HX2.out.size (fun q hq => hq.2) ?_; intro a5 c5 w5 hown5 hx5 _; have HO5 := hid hown5; have HX5 := hid (show Ext w w5 from HX2.out.trans hx5); clear hown5 hx5)
    go_roundw
    case rel => exact ⟨k + 1, O ++ [(pn, pb)], by omega, by go_num, HST.out, hid (by rw [HST.out]; exact HLEN.out), HO5.out, HX5.out⟩
    case measure => simp [intOf]; omega
  have hkn : k = n := by omega
  have HST := hid (show O = tDel T nm by rw [HK.out, hkn, HN.out, List.take_length])
  subst hkn
  obtain ⟨av, ac, rfl⟩ := HO.out.slice_
  clear HK
  go_wp2
  go_ret
  refine ⟨av, _, ac, rfl, ?_, HX.out⟩
  rw [← HST.out]
  exact (HO.out.fs (by have := HL.out; omega)).more fun q hq => hq.imp And.left id
end Go.Proofs.YtjapeaoebjmpnaaGreatDoor

/- The walk of the reference's with. -/
namespace Go.Proofs.YtjapeaoebjmpnaaGreatDoor
open Go.RowKit Go.Maps
set_option linter.unusedVariables false
set_option linter.unusedSimpArgs false
attribute [local go_sem] bmax2 bmin2 bmax_two bmin_two

theorem bl_before : ∀ (a b : By), Op.bytesLess a b = bytesBefore a b := by
  intro a
  induction a with
  | nil => intro b; cases b <;> rfl
  | cons x a ih =>
    intro b
    cases b with
    | nil => rfl
    | cons y b =>
      unfold Op.bytesLess bytesBefore
      rw [ih b]
theorem cells2 {W : World} {b : Nat} {x0 x1 : Value} {t : TypeId} (h : W.heap[b]? = some (.cells #[x0, x1] t (0, 0))) : W.cell? ⟨b, 0, none⟩ = some x0 ∧ W.cell? ⟨b, 1, none⟩ = some x1 := ⟨by simp [World.cell?, h], by simp [World.cell?, h]⟩
theorem tIns_step {x p : Nm × By} {out R : Tab} {T : Tab} (h : R = out ++ tIns x (p :: T)) : R = if bytesBefore x.1 p.1 = true then (out ++ [x] ++ [p]) ++ T else (out ++ [p]) ++ tIns x T := by
  rw [h]
  show out ++ (if bytesBefore x.1 p.1 = true then x :: p :: T else p :: tIns x T) = _
  split <;> simp
set_option maxRecDepth 100000 in
set_option maxHeartbeats 8000000 in
theorem Rwith_any {F G : Nat → Prop} {w : World} {a : Option Addr} {n c : Nat} {T : Tab} (h : FsF F w a n c T) (hT : T.length ≤ 7000) (nm : Nm) {ba : Option Addr} {bn bc : Nat} {b : By} (hb : ByF G w ba bn bc b) :
    Calls Tryz.prog 125 #[.slice a n c, .string ⟨nm.toArray⟩, .slice ba bn bc] w (FsPost (fun q => F q ∨ G q) (tPut T nm b) w) := by
  have HLE := hid (Rless_any h (by omega) nm)
  obtain ⟨R, hR⟩ : ∃ R, R = tPut T nm b := ⟨_, rfl⟩
  obtain ⟨T2, hT2⟩ : ∃ T2, T2 = tDel T nm := ⟨_, rfl⟩
  have hR2 : R = [] ++ tIns (nm, b) (T2.drop 0) := by rw [hR, hT2]; rfl
  have hT2l : T2.length ≤ 7000 := by rw [hT2]; have := tDel_len T nm; omega
  rw [← hR]
  rw [← hT2] at HLE
  have HB := hid (show ByF (fun q => (F q ∨ G q) ∧ q < w.heap.size) w ba bn bc b from hb.keep fun q hq hl => ⟨⟨.inr hq, hl⟩, rfl⟩)
  have HR := hid hR2
  have HT := hid hT2l
  clear h hb hR hT2 hR2 hT2l hT
  go_enter Tryz.func125, Tryz.ntmps125
  go_wp2_with fail
  refine Calls.mono HLE.out ?_
  rintro e w1 ⟨a2, n2, c2, rfl, hf, hx1⟩
  have hn := hf.1
  have hn2 : n2 ≤ 7000 := by have := HT.out; omega
  have HF := hid (show FsF (fun q => (F q ∨ G q) ∧ q < w.heap.size ∨ w.heap.size ≤ q ∧ q < w1.heap.size) w1 a2 n2 c2 T2 from hf.keep fun q hq hl => by
    rcases hq with hq | hq
    · rcases Nat.lt_or_ge q w.heap.size with h | h
      · exact ⟨.inl ⟨.inl hq, h⟩, rfl⟩
      exact ⟨.inr ⟨h, hl⟩, rfl⟩
    exact ⟨.inr hq, rfl⟩)
  have HN := hid hn
  have HX1 := hid hx1
  have HBI := hid (show ByF (fun q => (F q ∨ G q) ∧ q < w.heap.size ∨ w.heap.size ≤ q ∧ q < w1.heap.size) w1 ba bn bc b from (HB.out.below hx1).more fun q hq => .inl hq)
  clear hf hn hx1 HLE
  obtain ⟨I, hI⟩ : ∃ I : Nat → Prop, I = fun q => (F q ∨ G q) ∧ q < w.heap.size ∨ w.heap.size ≤ q ∧ q < w1.heap.size := ⟨_, rfl⟩
  rw [← hI] at HF HBI
  have HI := hid (show ∀ q, I q → q < w1.heap.size from fun q hq => by
    rw [hI] at hq
    rcases hq with hq | hq
    · have := hq.2; have := HX1.out.size; omega
    exact hq.2)
  have HI2 := hid (show ∀ q, I q → (F q ∨ G q) ∨ w.heap.size ≤ q from fun q hq => by
    rw [hI] at hq
    rcases hq with hq | hq
    · exact .inl hq.1
    exact .inr hq.1)
  clear hI
  go_wp2
  go_loopw [7, 8, 10, 15] (fun v dn _ z wr => ∃ (k : Nat) (O : Tab) (done : Bool), k ≤ n2 ∧ z = .int .i64 (k : Int) ∧ dn = .bool done ∧ Hid (R = O ++ (if done = true then T2.drop k else tIns (nm, b) (T2.drop k))) ∧ Hid (O.length ≤ k + done.toNat) ∧ Hid (OwnF w1.heap.size I wr v O) ∧ Hid (Ext w1 wr)) (fun _ _ _ z _ => n2 - (intOf z).toNat)
  case atStart => exact ⟨0, [], false, Nat.zero_le _, rfl, rfl, HR, hid (Nat.zero_le _), OwnF.nil_ _ _ _, Below.refl _ _⟩
  obtain ⟨k, O, done, hk, rfl, rfl, HK, HLD, HO, HX⟩ := hrel
  have HL := hid (show O.length ≤ k + 1 from Nat.le_trans HLD.out (by have := Bool.toNat_le done; omega))
  by_cases hlt : k < n2
  · obtain ⟨bb, oo, rfl, -, hbl, hkl, q0, va, vn, vc, q1, hby⟩ := (HF.out.below HX.out).at_ hlt
    have hdr : T2.drop k = T2[k] :: T2.drop (k + 1) := List.drop_eq_getElem_cons hkl
    have hkk := HK.out
    rw [hdr] at hkk
    generalize T2[k] = p at *
    obtain ⟨pn, pb⟩ := p
    dsimp only at q0 hby
    have hki : (k : Int) < (n2 : Int) := by omega
    have hki0 : (0 : Int) ≤ (k : Int) := by omega
    have x1 := ext_alloc wr (.cells #[.string ⟨pn.toArray⟩, .slice va vn vc] 147)
    have HX2 := hid (HX.out.trans' x1)
    have HO1 := hid (HO.out.ext x1)
    have HB1 := hid (hby.below x1)
    have hby0 := hby
    have HKK := hid hkk
    have hbl : Op.bytesLess nm pn = bytesBefore nm pn := bl_before nm pn
    obtain ⟨av, ac, rfl⟩ := HO.out.slice_
    clear hdr hby x1 HK hkk
    have hnc := heap_alloc_new wr (.cells #[.string ⟨pn.toArray⟩, .slice va vn vc] 147)
    have hzc : (wr.alloc (.cells #[.string ⟨pn.toArray⟩, .slice va vn vc] 147)).heap.size = wr.heap.size + 1 := World.size_alloc ..
    have HNC := hid hnc
    have HOB := hid (fun q (hq : (Value.slice av O.length ac).ownBlock = some q) => (HO.out.lt q hq).2)
    have HZW := hid HX.out.size
    by_cases hcase : done = false ∧ bytesBefore nm pn = true
    · obtain ⟨hd, hbb⟩ := hcase
      subst hd
      rw [hbb] at hbl
      have hst := HKK.out
      rw [if_neg (by simp)] at hst
      have hst := tIns_step hst
      rw [if_pos hbb] at hst
      have HST := hid hst
      have x2 := ext_alloc (wr.alloc (.cells #[.string ⟨pn.toArray⟩, .slice va vn vc] 147)) (.cells #[.string ⟨nm.toArray⟩, .slice ba bn bc] 147)
      have hcp := (x2.block wr.heap.size (by rw [hzc]; omega)).trans hnc
      have HCP := hid hcp
      have HX3 := hid (HX2.out.trans' x2)
      have HO2 := hid (HO1.out.ext x2)
      have HB2 := hid ((HBI.out.below HX.out).below ((ext_alloc wr (.cells #[.string ⟨pn.toArray⟩, .slice va vn vc] 147)).trans' x2))
      have HB3 := hid (HB1.out.below x2)
      have hrow := rnews_row (wr.alloc (.cells #[.string ⟨pn.toArray⟩, .slice va vn vc] 147)) [.string ⟨nm.toArray⟩, .slice ba bn bc] 1 2 147 rfl
      rw [World.size_alloc] at hrow
      have HROW := hid hrow
      have HK2 := hid (fun (W : World) (hW : ∀ q, q < ((wr.alloc (.cells #[.string ⟨pn.toArray⟩, .slice va vn vc] 147)).alloc (.cells #[.string ⟨nm.toArray⟩, .slice ba bn bc] 147)).heap.size → (Value.slice av O.length ac).ownBlock ≠ some q → W.heap[q]? = ((wr.alloc (.cells #[.string ⟨pn.toArray⟩, .slice va vn vc] 147)).alloc (.cells #[.string ⟨nm.toArray⟩, .slice ba bn bc] 147)).heap[q]?) =>
        cells2 ((hW wr.heap.size (by rw [World.size_alloc, hzc]; omega) (fun e => by have := HOB.out _ e; omega)).trans hcp))
      have HBY5 := hid (fun (W : World) (hW : Ext w1 W) => (hby0.keep (w' := W) (G := I) fun q hq hl => ⟨hq, (hW.block q (HI.out q hq)).trans (HX.out.block q (HI.out q hq)).symm⟩))
      clear hst hbb x2 hrow hnc hcp hzc hby0
      go_wp2_with (first
        | (at_builtin; refine wpList_appF rfl (.tmp 27) (.tmp 31) rfl w1.heap.size _ O rfl HO2.out (wr.heap.size + 1) rfl nm ba bn bc b HROW.out HB2.out (by have := HL.out; omega) HX3.out.size HI.out ?_; intro a5 c5 w5 hown5 hx5 hk5; have HO5 := hid (hown5.ext (ext_alloc w5 (.cells #[.string ⟨pn.toArray⟩, .slice va vn vc] 147))); have HX5 := hid (show Ext w1 w5 from HX3.out.trans hx5); have HX6 := hid ((show Ext w1 w5 from HX3.out.trans hx5).trans' (ext_alloc w5 (.cells #[.string ⟨pn.toArray⟩, .slice va vn vc] 147))); have HROW5 := hid (rnews_row w5 [.string ⟨pn.toArray⟩, .slice va vn vc] 1 2 147 rfl); obtain ⟨k0, k1⟩ := HK2.out w5 hk5; clear hown5 hx5 hk5)
        | (at_builtin; refine wpList_appF rfl (.tmp 33) (.tmp 35) rfl w1.heap.size (.slice a5 (O.length + 1) c5) (O ++ [(nm, b)]) rfl HO5.out w5.heap.size rfl pn va vn vc pb HROW5.out (HBY5.out _ HX6.out) (by have := HL.out; rw [List.length_append]; show O.length + 1 ≤ _; omega) HX6.out.size HI.out ?_; intro a7 c7 w7 hown7 hx7 _; have HO7 := hid hown7; have HX7 := hid (show Ext w1 w7 from HX6.out.trans hx7); clear hown7 hx7))
      go_roundw
      case rel => exact ⟨k + 1, O ++ [(nm, b)] ++ [(pn, pb)], true, by omega, by go_num, rfl, HST.out, hid (by have : O.length ≤ k + 0 := HLD.out; rw [List.length_append, List.length_append]; show O.length + 1 + 1 ≤ k + 1 + 1; omega), hid (by have h7 := HO7.out; rw [List.length_append] at h7; exact h7), HX7.out⟩
      case measure => simp [intOf]; omega
    have hd1 : (done = true) ∨ (done = false ∧ bytesBefore nm pn = false) := by
      cases done with
      | true => exact .inl rfl
      | false =>
        refine .inr ⟨rfl, ?_⟩
        cases h : bytesBefore nm pn with
        | true => exact absurd ⟨rfl, h⟩ hcase
        | false => rfl
    have hst : R = (O ++ [(pn, pb)]) ++ (if done = true then T2.drop (k + 1) else tIns (nm, b) (T2.drop (k + 1))) := by
      rcases hd1 with hd | ⟨hd, hbb⟩
      · subst hd
        have := HKK.out
        rw [if_pos rfl] at this
        rw [this, if_pos rfl]
        simp
      subst hd
      have := HKK.out
      rw [if_neg (by simp)] at this
      have := tIns_step this
      rw [if_neg (by rw [hbb]; simp)] at this
      rw [if_neg (by simp)]
      exact this
    have HST := hid hst
    have x2 := ext_alloc (wr.alloc (.cells #[.string ⟨pn.toArray⟩, .slice va vn vc] 147)) (.cells #[.string ⟨pn.toArray⟩, .slice va vn vc] 147)
    have HX3 := hid (HX2.out.trans' x2)
    have HO2 := hid (HO1.out.ext x2)
    have HB2 := hid (HB1.out.below x2)
    have hrow := rnews_row (wr.alloc (.cells #[.string ⟨pn.toArray⟩, .slice va vn vc] 147)) [.string ⟨pn.toArray⟩, .slice va vn vc] 1 2 147 rfl
    rw [World.size_alloc] at hrow
    have HROW := hid hrow
    clear hst x2 hrow hnc hzc hcase hby0
    rcases hd1 with hd | ⟨hd, hbb⟩
    · subst hd
      clear hbl
      go_wp2_with (at_builtin; refine wpList_appF rfl (.tmp 33) (.tmp 35) rfl w1.heap.size _ O rfl HO2.out (wr.heap.size + 1) rfl pn va vn vc pb HROW.out HB2.out (by have := HL.out; omega) HX3.out.size HI.out ?_; intro a5 c5 w5 hown5 hx5 _; have HO5 := hid hown5; have HX5 := hid (show Ext w1 w5 from HX3.out.trans hx5); clear hown5 hx5)
      go_roundw
      case rel => exact ⟨k + 1, O ++ [(pn, pb)], true, by omega, by go_num, rfl, HST.out, hid (by have : O.length ≤ k + 1 := HLD.out; rw [List.length_append]; show O.length + 1 ≤ k + 1 + 1; omega), HO5.out, HX5.out⟩
      case measure => simp [intOf]; omega
    subst hd
    rw [hbb] at hbl
    clear hbb
    go_wp2_with (at_builtin; refine wpList_appF rfl (.tmp 33) (.tmp 35) rfl w1.heap.size _ O rfl HO2.out (wr.heap.size + 1) rfl pn va vn vc pb HROW.out HB2.out (by have := HL.out; omega) HX3.out.size HI.out ?_; intro a5 c5 w5 hown5 hx5 _; have HO5 := hid hown5; have HX5 := hid (show Ext w1 w5 from HX3.out.trans hx5); clear hown5 hx5)
    go_roundw
    case rel => exact ⟨k + 1, O ++ [(pn, pb)], false, by omega, by go_num, rfl, HST.out, hid (by have : O.length ≤ k + 0 := HLD.out; rw [List.length_append]; show O.length + 1 ≤ k + 1 + 0; omega), HO5.out, HX5.out⟩
    case measure => simp [intOf]; omega
  have hkn : k = n2 := by omega
  subst hkn
  have hkk := HK.out
  rw [HN.out, List.drop_length] at hkk
  obtain ⟨av, ac, rfl⟩ := HO.out.slice_
  have HOL := hid (show O.length ≤ 8000 by have := HL.out; have := HT.out; have := HN.out; omega)
  cases done with
  | true =>
    rw [if_pos rfl, List.append_nil] at hkk
    have HST := hid hkk
    clear hkk HK
    go_wp2
    go_ret
    refine ⟨av, _, ac, rfl, ?_, HX1.out.trans' HX.out⟩
    rw [HST.out]
    exact (HO.out.fs (by have := HOL.out; omega)).more fun q hq => by
      rcases hq with hq | hq
      · rcases HI2.out q hq with h | h
        · exact .inl h
        exact .inr ⟨h, by have := HI.out q hq; have := HX.out.size; omega⟩
      exact .inr ⟨by have := hq.1; have := HX1.out.size; omega, hq.2⟩
  | false =>
    rw [if_neg (by simp)] at hkk
    have HST := hid (show R = O ++ [(nm, b)] from hkk)
    clear hkk HK
    have x2 := ext_alloc wr (.cells #[.string ⟨nm.toArray⟩, .slice ba bn bc] 147)
    have HX3 := hid (HX.out.trans' x2)
    have HO2 := hid (HO.out.ext x2)
    have HB2 := hid ((HBI.out.below HX.out).below x2)
    have HROW := hid (rnews_row wr [.string ⟨nm.toArray⟩, .slice ba bn bc] 1 2 147 rfl)
    clear x2
    go_wp2_with (at_builtin; refine wpList_appF rfl (.tmp 40) (.tmp 44) rfl w1.heap.size _ O rfl HO2.out wr.heap.size rfl nm ba bn bc b HROW.out HB2.out (by have := HOL.out; omega) HX3.out.size HI.out ?_; intro a5 c5 w5 hown5 hx5 _; have HO5 := hid hown5; have HX5 := hid (show Ext w1 w5 from HX3.out.trans hx5); clear hown5 hx5)
    go_ret
    refine ⟨a5, _, c5, rfl, ?_, HX1.out.trans' HX5.out⟩
    rw [HST.out]
    exact (HO5.out.fs (by have := HOL.out; rw [List.length_append]; show O.length + 1 ≤ _; omega)).more fun q hq => by
      rcases hq with hq | hq
      · rcases HI2.out q hq with h | h
        · exact .inl h
        exact .inr ⟨h, by have := HI.out q hq; have := HX5.out.size; omega⟩
      exact .inr ⟨by have := hq.1; have := HX1.out.size; omega, hq.2⟩
end Go.Proofs.YtjapeaoebjmpnaaGreatDoor
