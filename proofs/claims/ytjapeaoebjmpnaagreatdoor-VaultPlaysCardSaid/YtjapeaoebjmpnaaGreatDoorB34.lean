/- The reference's disk in memory; the walks of Files, hit, why. -/
import Derived.Test.YtjapeaoebjmpnaaGreatDoorB33
namespace Go.Proofs.YtjapeaoebjmpnaaGreatDoor
open Go.RowKit Go.Maps
set_option linter.unusedVariables false
set_option linter.unusedSimpArgs false
attribute [local go_sem] bmax2 bmin2 bmax_two bmin_two

def RaF (F : Nat → Prop) (w : World) : List RH → List ActS → Prop
  | [], [] => True
  | h :: H, p :: T => RaV F w h p ∧ RaF F w H T
  | _, _ => False
theorem RaV.keep {F G : Nat → Prop} {w w' : World} {h : RH} {p : ActS} (hf : ∀ k, F k → k < w.heap.size → G k ∧ w'.heap[k]? = w.heap[k]?) (hx : RaV F w h p) : RaV G w' h p := ⟨hx.1, hx.2.keep hf⟩
theorem RaF.keep {F G : Nat → Prop} {w w' : World} (hf : ∀ k, F k → k < w.heap.size → G k ∧ w'.heap[k]? = w.heap[k]?) : ∀ {H : List RH} {T : List ActS}, RaF F w H T → RaF G w' H T := by
  intro H
  induction H with
  | nil => intro T h; cases T with
    | nil => exact trivial
    | cons p T => exact h.elim
  | cons x H ih => intro T h; cases T with
    | nil => exact h.elim
    | cons p T => exact ⟨h.1.keep hf, ih h.2⟩
theorem RaF.len {F : Nat → Prop} {w : World} : ∀ {H : List RH} {T : List ActS}, RaF F w H T → H.length = T.length := by
  intro H
  induction H with
  | nil => intro T h; cases T with
    | nil => rfl
    | cons p T => exact h.elim
  | cons x H ih => intro T h; cases T with
    | nil => exact h.elim
    | cons p T => rw [List.length_cons, List.length_cons, ih h.2]
theorem RaF.snoc {F : Nat → Prop} {w : World} {x : RH} {p : ActS} (hx : RaV F w x p) : ∀ {H : List RH} {T : List ActS}, RaF F w H T → RaF F w (H ++ [x]) (T ++ [p]) := by
  intro H
  induction H with
  | nil => intro T h; cases T with
    | nil => exact ⟨hx, trivial⟩
    | cons q T => exact h.elim
  | cons y H ih => intro T h; cases T with
    | nil => exact h.elim
    | cons q T => exact ⟨h.1, ih h.2⟩
theorem RaF.at_ {F : Nat → Prop} {w : World} : ∀ {H : List RH} {T : List ActS}, RaF F w H T → ∀ k (h1 : k < H.length) (h2 : k < T.length), RaV F w H[k] T[k] := by
  intro H
  induction H with
  | nil => intro T h k h1; cases h1
  | cons y H ih => intro T h k h1 h2; cases T with
    | nil => cases h2
    | cons q T =>
      cases k with
      | zero => exact h.1
      | succ k => exact ih h.2 k (by simpa using h1) (by simpa using h2)

/-- What of a disk's memory no call writes. -/
def Imr (D : Nat → Prop) (g : Nat) (av : Value) (q : Nat) : Prop := D q ∧ q ≠ g ∧ some q ≠ av.ownBlock
structure RDkIn (D : Nat → Prop) (w : World) (g : Nat) (s : DS) (la : Option Addr) (ln lc : Nat) (av : Value) (H : List RH) (k t : Int) : Prop where
  obj : w.heap[g]? = some (.cells #[.int .i64 s.room, .slice la ln lc, av, .bool s.off, .int .i64 s.left, .int .i64 k, .int .i64 t] 67 (0, 0))
  arm : s.left ≠ 0 → k = s.keep ∧ t = s.tear
  k64 : In64 k ∧ In64 t
  last : FsF (Imr D g av) w la ln lc s.last
  row : w.ownsRow 0 124 5 av s.acts.length (rawR H)
  acts : RaF (Imr D g av) w H s.acts
  dg : D g
  dav : ∀ q, av.ownBlock = some q → D q
  gav : av.ownBlock ≠ some g
  lt : ∀ q, D q → q < w.heap.size
def RDk (D : Nat → Prop) (w : World) (g : Nat) (s : DS) : Prop := ∃ la ln lc av H k t, RDkIn D w g s la ln lc av H k t
theorem RDkIn.keep {D E : Nat → Prop} {w w' : World} {g : Nat} {s : DS} {la : Option Addr} {ln lc : Nat} {av : Value} {H : List RH} {k t : Int} (h : RDkIn D w g s la ln lc av H k t) (hD : ∀ q, D q → E q ∧ w'.heap[q]? = w.heap[q]?) (hE : ∀ q, E q → q < w'.heap.size) : RDkIn E w' g s la ln lc av H k t :=
  ⟨((hD g h.dg).2).trans h.obj, h.arm, h.k64, h.last.keep fun q hq _ => ⟨⟨(hD q hq.1).1, hq.2⟩, (hD q hq.1).2⟩, own_keep h.row fun q hq => (hD q (h.dav q hq)).2, h.acts.keep fun q hq _ => ⟨⟨(hD q hq.1).1, hq.2⟩, (hD q hq.1).2⟩, (hD g h.dg).1, fun q hq => (hD q (h.dav q hq)).1, h.gav, hE⟩
theorem RDk.frm {D E : Nat → Prop} {w w' : World} {g : Nat} {s : DS} (h : RDk D w g s) (hf : Frm E w w') (hE : ∀ q, D q → ¬ E q) : RDk D w' g s := by
  obtain ⟨la, ln, lc, av, H, k, t, h⟩ := h
  exact ⟨la, ln, lc, av, H, k, t, h.keep (fun q hq => ⟨hq, hf.block q (h.lt q hq) (hE q hq)⟩) fun q hq => Nat.lt_of_lt_of_le (h.lt q hq) hf.size⟩
theorem RDk.below {D : Nat → Prop} {w w' : World} {g : Nat} {s : DS} (h : RDk D w g s) (hf : Ext w w') : RDk D w' g s := h.frm (Frm.of_ext hf (fun _ => False)) fun _ _ h => h
theorem RDk.more {D E : Nat → Prop} {w : World} {g : Nat} {s : DS} (h : RDk D w g s) (hE : ∀ q, D q → E q) (hl : ∀ q, E q → q < w.heap.size) : RDk E w g s := by
  obtain ⟨la, ln, lc, av, H, k, t, h⟩ := h
  exact ⟨la, ln, lc, av, H, k, t, h.keep (fun q hq => ⟨hE q hq, rfl⟩) hl⟩
theorem RDk.lt {D : Nat → Prop} {w : World} {g : Nat} {s : DS} (h : RDk D w g s) : ∀ q, D q → q < w.heap.size := by
  obtain ⟨_, _, _, _, _, _, _, h⟩ := h; exact h.lt
theorem rcells7 {W : World} {b : Nat} {x0 x1 x2 x3 x4 x5 x6 : Value} {t : TypeId} (h : W.heap[b]? = some (.cells #[x0, x1, x2, x3, x4, x5, x6] t (0, 0))) :
    (W.cell? ⟨b, 0, none⟩ = some x0 ∧ W.cell? ⟨b, 1, none⟩ = some x1 ∧ W.cell? ⟨b, 2, none⟩ = some x2 ∧ W.cell? ⟨b, 3, none⟩ = some x3 ∧ W.cell? ⟨b, 4, none⟩ = some x4 ∧ W.cell? ⟨b, 5, none⟩ = some x5 ∧ W.cell? ⟨b, 6, none⟩ = some x6) ∧ (∀ j, W.frozen? ⟨b, j, none⟩ = false) ∧ b < W.heap.size :=
  ⟨⟨by simp [World.cell?, h], by simp [World.cell?, h], by simp [World.cell?, h], by simp [World.cell?, h], by simp [World.cell?, h], by simp [World.cell?, h], by simp [World.cell?, h]⟩, fun j => by simp [World.frozen?, h], (Array.getElem?_eq_some_iff.1 h).1⟩
/-- An act of the disk's row. -/
theorem RDkIn.act {D : Nat → Prop} {w : World} {g : Nat} {s : DS} {la : Option Addr} {ln lc : Nat} {av : Value} {H : List RH} {k t : Int} (h : RDkIn D w g s la ln lc av H k t) {i : Nat} (hi : i < s.acts.length) :
    ∃ b c x, av = .slice (some ⟨b, 0, none⟩) s.acts.length c ∧ b < w.heap.size ∧ RaV (Imr D g av) w x s.acts[i] ∧ w.cell? ⟨b, i * 5, none⟩ = some (.int .i64 x.k) ∧ w.cell? ⟨b, i * 5 + 1, none⟩ = some (.string ⟨x.nm.toArray⟩) ∧ w.cell? ⟨b, i * 5 + 2, none⟩ = some (.string ⟨x.to_.toArray⟩) ∧
      w.cell? ⟨b, i * 5 + 3, none⟩ = some (.int .i64 x.at_) ∧ w.cell? ⟨b, i * 5 + 4, none⟩ = some (.slice x.a x.n x.c) := by
  have hr := h.row
  have hlen := h.acts.len
  rcases hr.2 with ⟨-, e⟩ | ⟨b, cap, cur, rfl, hb, hg, -⟩
  · omega
  have hi2 : i < H.length := by omega
  have hc : ∀ j, j < 5 → w.cell? ⟨b, i * 5 + j, none⟩ = (H[i]).cells[j]? := fun j hj => by
    rw [hr.cellAt (i * 5 + j) (by omega), rawR_get H i j hj, List.getElem?_eq_getElem hi2]
    rfl
  exact ⟨b, cap, H[i], rfl, (Array.getElem?_eq_some_iff.1 hg).1, h.acts.at_ i hi2 hi, hc 0 (by omega), hc 1 (by omega), hc 2 (by omega), hc 3 (by omega), hc 4 (by omega)⟩
theorem aTot_takeR (l : List ActS) (k : Nat) : aTot (l.take k) ≤ aTot l := by
  have h := aTot_append (l.take k) (l.drop k)
  rw [List.take_append_drop] at h
  omega
theorem aTot_get {l : List ActS} {k : Nat} (hk : k < l.length) : l[k].data.length ≤ aTot l := by
  have h := aTot_append (l.take k) (l.drop k)
  rw [List.take_append_drop, List.drop_eq_getElem_cons hk] at h
  have h2 : ∀ (x : ActS) (m : List ActS), aTot (x :: m) = x.data.length + aTot m := fun x m => by unfold aTot; rw [List.map_cons, List.sum_cons]
  rw [h2] at h
  omega
theorem Ok_take {s : DS} (h : s.Ok) {k : Nat} (hk : k ≤ s.acts.length) : (runAll s.last (s.acts.take k)).length ≤ 4096 ∧ tTot (runAll s.last (s.acts.take k)) ≤ 16777216 := by
  have hs : fitsAll s.last (s.acts.take k) := by
    have := h.fits
    rw [← List.take_append_drop k s.acts, fitsAll_append] at this
    exact this.1
  obtain ⟨-, h2, h3⟩ := runAll_ok _ _ hs h.rise h.len
  have h4 := aTot_takeR s.acts k
  have h5 := h.used
  have h6 := h.room1
  unfold DS.used at h5
  exact ⟨h2, by omega⟩

set_option maxRecDepth 100000 in
set_option maxHeartbeats 8000000 in
theorem RFiles_any {D : Nat → Prop} {w : World} {g : Nat} {s : DS} (h : RDk D w g s) (hok : s.Ok) (hc : s.acts.length < 1000000000000) :
    Calls Tryz.prog 67 #[.pointer (some ⟨g, 0, none⟩)] w (FsPost (fun q => D q ∧ q ≠ g) s.seen w) := by
  obtain ⟨la, ln, lc, av, H, k, t, h⟩ := h
  obtain ⟨⟨c0, c1, c2, c3, c4, c5, c6⟩, -, hgl⟩ := rcells7 h.obj
  obtain ⟨aa, ac, hav⟩ := own_slice2 h.row
  have hls : FsF (fun q => D q ∧ q ≠ g) w la ln lc s.last := h.last.more fun q hq => ⟨hq.1, hq.2.1⟩
  have HLS := hid hls
  have HACT := hid (fun i (hi : i < s.acts.length) => h.act hi)
  have HOK := hid hok
  obtain ⟨N, hN⟩ : ∃ N, N = s.acts.length := ⟨_, rfl⟩
  have HNN := hid hN
  subst hav
  rw [← hN] at hc c2
  clear h hok hls hN
  go_enter Tryz.func67, Tryz.ntmps67
  go_wp2
  go_loopw [3, 5, 15] (fun v _ z wr => ∃ (i : Nat) (a : Option Addr) (n c : Nat), i ≤ N ∧ z = .int .i64 (i : Int) ∧ v = .slice a n c ∧ Hid (FsF (fun q => (D q ∧ q ≠ g) ∨ w.heap.size ≤ q ∧ q < wr.heap.size) wr a n c (runAll s.last (s.acts.take i))) ∧ Hid (Ext w wr)) (fun _ _ z _ => N - (intOf z).toNat)
  case atStart => exact ⟨0, la, ln, lc, Nat.zero_le _, rfl, rfl, hid (HLS.out.more fun q hq => .inl hq), Below.refl _ _⟩
  obtain ⟨i, a, n, c, hi, rfl, rfl, HF, HX⟩ := hrel
  by_cases hlt : i < N
  · have hi2 : i < s.acts.length := by rw [← HNN.out]; exact hlt
    obtain ⟨b, cc, x, hav, hbl, hra, q0, q1, q2, q3, q4⟩ := HACT.out i hi2
    injection hav with e1 e2 e3
    subst e1; subst e3
    have qc : ∀ j, wr.cell? ⟨b, j, none⟩ = w.cell? ⟨b, j, none⟩ := fun j => HX.out.cell (p := ⟨b, j, none⟩) hbl
    have q0 := (qc _).trans q0
    have q1 := (qc _).trans q1
    have q2 := (qc _).trans q2
    have q3 := (qc _).trans q3
    have q4 := (qc _).trans q4
    have hfit := fitsAll_at HOK.out.fits hi2
    have hot := Ok_take HOK.out (k := i) (by omega)
    have hdl : s.acts[i].data.length ≤ 16777216 := by have h1 := aTot_get hi2; have h2 := HOK.out.run.2.2.2.2; omega
    have hrun : runAll s.last (s.acts.take (i + 1)) = s.acts[i].run (runAll s.last (s.acts.take i)) := runAll_take hi2
    have HRUN := hid hrun
    have hii : (i : Int) < (N : Int) := by omega
    have hii0 : (0 : Int) ≤ (i : Int) := by omega
    obtain ⟨xk, xn, xt, xa, ba, bn, bc⟩ := x
    dsimp only at q0 q1 q2 q3 q4
    have x1 := ext_alloc wr (.cells #[.int .i64 xk, .string ⟨xn.toArray⟩, .string ⟨xt.toArray⟩, .int .i64 xa, .slice ba bn bc] 124)
    have HX1 := hid (HX.out.trans' x1)
    have hdo := RDo_any (HF.out.below x1) (by omega) hot.2 (hra.keep (w' := wr.alloc (.cells #[.int .i64 xk, .string ⟨xn.toArray⟩, .string ⟨xt.toArray⟩, .int .i64 xa, .slice ba bn bc] 124)) (G := fun q => D q ∧ q ≠ g) fun q hq hl => ⟨⟨hq.1, hq.2.1⟩, HX1.out.block q hl⟩) hfit.2 hdl
    have HDO := hid hdo
    clear hra qc hfit hot hdl hrun x1 hdo
    go_wp2_with fail
    refine Calls.mono HDO.out ?_
    rintro e w2 ⟨a2, n2, c2, rfl, hf, hx2⟩
    have HF2 := hid hf
    have HX2 := hid (HX1.out.trans' hx2)
    have HZ := hid (show w.heap.size ≤ wr.heap.size ∧ wr.heap.size < w2.heap.size by have h1 := HX.out.size; have h2 := hx2.size; rw [World.size_alloc] at h2; omega)
    clear hf hx2 HDO q0 q1 q2 q3 q4
    go_wp2
    go_roundw
    case rel => exact ⟨i + 1, a2, n2, c2, by omega, by go_num, rfl, hid (by
      rw [HRUN.out]
      exact HF2.out.more fun q hq => by
        have h1 := HZ.out
        rcases hq with ((hq | hq) | hq) | hq
        · exact .inl hq
        · exact .inr ⟨hq.1, by have := hq.2; omega⟩
        · exact .inl hq
        exact .inr ⟨by have := hq.1; rw [World.size_alloc] at this; omega, hq.2⟩), HX2.out⟩
    case measure => simp [intOf]; omega
  have hin : i = N := by omega
  have HS := hid (show runAll s.last (s.acts.take i) = s.seen by rw [hin, HNN.out, List.take_length, HOK.out.seen])
  subst hin
  go_wp2
  go_ret
  have hf := HF.out
  rw [HS.out] at hf
  exact ⟨a, n, c, rfl, hf, HX.out⟩
end Go.Proofs.YtjapeaoebjmpnaaGreatDoor

/- The walks of the reference's hit, why, Read, List, Used. -/
namespace Go.Proofs.YtjapeaoebjmpnaaGreatDoor
open Go.RowKit Go.Maps
set_option linter.unusedVariables false
set_option linter.unusedSimpArgs false
attribute [local go_sem] bmax2 bmin2 bmax_two bmin_two

/-- Its numbers are others. -/
theorem RDkIn.nums {D : Nat → Prop} {w w' : World} {g : Nat} {s : DS} {la : Option Addr} {ln lc : Nat} {av : Value} {H : List RH} {k t : Int} (h : RDkIn D w g s la ln lc av H k t) {off : Bool} {left kp tr k' t' : Int}
    (hS : SetG g 67 w w' #[.int .i64 s.room, .slice la ln lc, av, .bool off, .int .i64 left, .int .i64 k', .int .i64 t']) (ha : left ≠ 0 → k' = kp ∧ t' = tr) (h64 : In64 k' ∧ In64 t') :
    RDkIn D w' g { s with off := off, left := left, keep := kp, tear := tr } la ln lc av H k' t' ∧ Frm D w w' := by
  have hb : ∀ q, q ≠ g → q < w.heap.size → w'.heap[q]? = w.heap[q]? := fun q hn hq => hS.frm.block q hq hn
  exact ⟨⟨hS.obj, ha, h64, h.last.keep fun q hq hl => ⟨hq, hb q hq.2.1 hl⟩, own_keep h.row fun q hq => hb q (fun e => h.gav (by rw [hq, e])) (h.lt q (h.dav q hq)), h.acts.keep fun q hq hl => ⟨hq, hb q hq.2.1 hl⟩, h.dg, h.dav, h.gav, fun q hq => by rw [hS.size]; exact h.lt q hq⟩,
    hS.frm.more fun q e => by subst e; exact h.dg⟩
def RHitPost (D : Nat → Prop) (g : Nat) (r : Bool × DS) (w : World) (e : Ending) (w' : World) : Prop := e = .returned (.bool r.1) ∧ RDk D w' g r.2 ∧ Frm D w w' ∧ w'.heap.size = w.heap.size ∧ w'.cell? ⟨g, 5, none⟩ = w.cell? ⟨g, 5, none⟩ ∧ w'.cell? ⟨g, 6, none⟩ = w.cell? ⟨g, 6, none⟩
set_option maxRecDepth 100000 in
set_option maxHeartbeats 4000000 in
theorem RHit_any {D : Nat → Prop} {w : World} {g : Nat} {s : DS} (h : RDk D w g s) (hok : s.Ok) :
    Calls Tryz.prog 102 #[.pointer (some ⟨g, 0, none⟩)] w (RHitPost D g s.hit w) := by
  obtain ⟨la, ln, lc, av, H, k, t, h⟩ := h
  obtain ⟨⟨c0, c1, c2, c3, c4, c5, c6⟩, hfz, hgl⟩ := rcells7 h.obj
  have f4 := hfz 4
  have hl0 := hok.left0
  have hl1 := hok.left1
  have HI := hid h
  have hhit : s.hit = if s.left = 0 then (false, s) else (decide (s.left = 1), { s with left := s.left - 1 }) := rfl
  obtain ⟨z, hz⟩ : ∃ z, z = s.left := ⟨_, rfl⟩
  have HZ := hid hz
  rw [← hz] at hhit hl0 hl1 c4
  clear h hok hfz hz
  by_cases h0 : z = 0
  · rw [if_pos h0] at hhit
    rw [hhit]
    clear hhit
    subst h0
    go_enter Tryz.func102, Tryz.ntmps102
    go_wp2
    go_ret
    exact ⟨rfl, ⟨_, _, _, _, _, _, _, HI.out⟩, Frm.refl _ _, rfl, rfl, rfl⟩
  rw [if_neg h0] at hhit
  rw [hhit]
  clear hhit
  have hzb : (z == 0) = false := by simpa using h0
  have hS := (SetG.start HI.out.obj).step 4 (.int .i64 (z - 1))
  have hc4 : (w.setCell ⟨g, 4, none⟩ (.int .i64 (z - 1))).cell? ⟨g, 4, none⟩ = some (.int .i64 (z - 1)) := (rcells7 hS.obj).1.2.2.2.2.1
  have HS := hid hS
  have HZ0 := hid h0
  clear hS h0
  by_cases h1 : z = 1
  · subst h1
    go_enter Tryz.func102, Tryz.ntmps102
    go_wp2
    go_ret
    obtain ⟨r1, r2⟩ := HI.out.nums (off := s.off) (left := s.left - 1) (kp := s.keep) (tr := s.tear) (by rw [← HZ.out]; exact HS.out) (fun _ => HI.out.arm (by rw [← HZ.out]; exact HZ0.out)) HI.out.k64
    rw [← HZ.out] at r1
    exact ⟨rfl, ⟨_, _, _, _, _, _, _, r1⟩, r2, HS.out.size, ((rcells7 HS.out.obj).1.2.2.2.2.2.1).trans ((rcells7 HI.out.obj).1.2.2.2.2.2.1).symm, ((rcells7 HS.out.obj).1.2.2.2.2.2.2).trans ((rcells7 HI.out.obj).1.2.2.2.2.2.2).symm⟩
  have hz1 : (z - 1 == 0) = false := by simp; omega
  have hd : decide (z = 1) = false := by simpa using h1
  rw [hd]
  clear h1 hd
  go_enter Tryz.func102, Tryz.ntmps102
  go_wp2
  go_ret
  obtain ⟨r1, r2⟩ := HI.out.nums (off := s.off) (left := s.left - 1) (kp := s.keep) (tr := s.tear) (by rw [← HZ.out]; exact HS.out) (fun _ => HI.out.arm (by rw [← HZ.out]; exact HZ0.out)) HI.out.k64
  rw [← HZ.out] at r1
  exact ⟨rfl, ⟨_, _, _, _, _, _, _, r1⟩, r2, HS.out.size, ((rcells7 HS.out.obj).1.2.2.2.2.2.1).trans ((rcells7 HI.out.obj).1.2.2.2.2.2.1).symm, ((rcells7 HS.out.obj).1.2.2.2.2.2.2).trans ((rcells7 HI.out.obj).1.2.2.2.2.2.2).symm⟩
theorem RDk.c3 {D : Nat → Prop} {w : World} {g : Nat} {s : DS} (h : RDk D w g s) : w.cell? ⟨g, 3, none⟩ = some (.bool s.off) ∧ g < w.heap.size ∧ D g := by
  obtain ⟨la, ln, lc, av, H, k, t, h⟩ := h
  exact ⟨(rcells7 h.obj).1.2.2.2.1, (rcells7 h.obj).2.2, h.dg⟩
set_option maxRecDepth 100000 in
set_option maxHeartbeats 4000000 in
theorem RWhy_any {D : Nat → Prop} {w : World} {g : Nat} {s : DS} (h : RDk D w g s) (hok : s.Ok) (hc : s.acts.length < 1000000000000) (nm : Nm) (hn : nm.length ≤ maxLen) :
    Calls Tryz.prog 66 #[.pointer (some ⟨g, 0, none⟩), .string ⟨nm.toArray⟩] w (fun e w' => e = .returned (.int .i64 (s.find nm)) ∧ Ext w w') := by
  have hc3 := h.c3.1
  have HFI := hid (RFiles_any h hok hc)
  have HNA := hid (RName_any w nm hn)
  have hfind : s.find nm = if s.off = true then 22 else if mayS nm = false then 20 else if tGet s.seen nm = none then 21 else 0 := rfl
  obtain ⟨off, hoff⟩ : ∃ off, off = s.off := ⟨_, rfl⟩
  obtain ⟨my, hmy⟩ : ∃ my, my = mayS nm := ⟨_, rfl⟩
  rw [← hoff, ← hmy] at hfind
  rw [← hoff] at hc3
  rw [← hmy] at HNA
  obtain ⟨R, hR⟩ : ∃ R, R = s.find nm := ⟨_, rfl⟩
  rw [← hR]
  rw [← hR] at hfind
  have HR := hid hfind
  clear h hok hc hn hfind hoff hmy hR
  cases off with
  | true =>
    go_enter Tryz.func66, Tryz.ntmps66
    go_wp2
    go_ret
    exact ⟨by simp [HR.out], Below.refl _ _⟩
  | false =>
    go_enter Tryz.func66, Tryz.ntmps66
    go_wp2_with fail
    refine Calls.mono HNA.out ?_
    rintro e w1 ⟨rfl, hw1⟩
    subst hw1
    cases my with
    | false =>
      go_wp2
      go_ret
      exact ⟨by simp [HR.out], Below.refl _ _⟩
    | true =>
      go_wp2_with fail
      refine Calls.mono HFI.out ?_
      rintro e w2 ⟨a2, n2, c2, rfl, hf, hx2⟩
      have HG := hid (Rget_any hf nm)
      have HX2 := hid hx2
      clear hf hx2 HFI
      go_wp2_with fail
      refine Calls.mono HG.out ?_
      rintro e w3 ⟨hx3, ⟨h1, rfl⟩ | ⟨b, a, n, c, h1, rfl, -⟩⟩
      · have HT := hid h1
        have HX3 := hid (HX2.out.trans' hx3)
        clear hx3 h1
        go_wp2
        go_ret
        exact ⟨by rw [HR.out, if_neg (by simp), if_neg (by simp), if_pos HT.out]; rfl, HX3.out⟩
      have HT := hid h1
      have HX3 := hid (HX2.out.trans' hx3)
      clear hx3 h1
      go_wp2
      go_ret
      exact ⟨by rw [HR.out, if_neg (by simp), if_neg (by simp), if_neg (by rw [HT.out]; simp)]; rfl, HX3.out⟩
def RReadPost (D : Nat → Prop) (g : Nat) (s : DS) (n : Nm) (w : World) (e : Ending) (w' : World) : Prop :=
  ∃ a k c, e = .returned (.tuple #[.slice a k c, .int .i64 (s.read n).2]) ∧ ByF (fun q => (D q ∧ q ≠ g) ∨ (w.heap.size ≤ q ∧ q < w'.heap.size)) w' a k c (s.read n).1 ∧ Ext w w'
set_option maxRecDepth 100000 in
set_option maxHeartbeats 4000000 in
theorem RRead2_any {D : Nat → Prop} {w : World} {g : Nat} {s : DS} (h : RDk D w g s) (hok : s.Ok) (hc : s.acts.length < 1000000000000) (nm : Nm) (hn : nm.length ≤ maxLen) :
    Calls Tryz.prog 72 #[.pointer (some ⟨g, 0, none⟩), .string ⟨nm.toArray⟩] w (RReadPost D g s nm w) := by
  have HWH := hid (RWhy_any h hok hc nm hn)
  have HFI := hid (fun W (hW : Ext w W) => RFiles_any (h.below hW) hok hc)
  have hread : s.read nm = if s.find nm ≠ 0 then ([], s.find nm) else (tOld s.seen nm, 0) := rfl
  have HLT := hid h.lt
  obtain ⟨z, hz⟩ : ∃ z, z = s.find nm := ⟨_, rfl⟩
  rw [← hz] at hread HWH
  unfold RReadPost
  rw [hread]
  clear h hok hc hn hread hz
  by_cases h0 : z = 0
  · rw [if_neg (by rw [h0]; simp)]
    subst h0
    go_enter Tryz.func72, Tryz.ntmps72
    go_wp2_with fail
    refine Calls.mono HWH.out ?_
    rintro e w1 ⟨rfl, hx1⟩
    have HX1 := hid hx1
    clear hx1
    go_wp2_with fail
    refine Calls.mono (HFI.out w1 HX1.out) ?_
    rintro e w2 ⟨a2, n2, c2, rfl, hf, hx2⟩
    have HG := hid (Rget_any hf nm)
    have HX2 := hid (HX1.out.trans' hx2)
    have HZ := hid (show w.heap.size ≤ w1.heap.size ∧ w1.heap.size ≤ w2.heap.size from ⟨HX1.out.size, hx2.size⟩)
    clear hf hx2 HFI
    go_wp2_with fail
    refine Calls.mono HG.out ?_
    rintro e w3 hp
    obtain ⟨a, n, c, f, rfl, hby, hx3⟩ := hp.old
    have HBY := hid hby
    have HX3 := hid (HX2.out.trans' hx3)
    have HZ3 := hid hx3.size
    clear hp hby hx3
    go_wp2
    go_ret2
    exact ⟨a, n, c, rfl, HBY.out.more fun q hq => by
      have h1 := HZ.out
      have h2 := HZ3.out
      rcases hq with hq | hq
      · exact .inl hq
      exact .inr ⟨by have := hq.1; omega, by have := hq.2; omega⟩, HX3.out⟩
  rw [if_pos h0]
  have hzb : (z != 0) = true := by simpa using h0
  clear h0
  go_enter Tryz.func72, Tryz.ntmps72
  go_wp2_with fail
  refine Calls.mono HWH.out ?_
  rintro e w1 ⟨rfl, hx1⟩
  have HX1 := hid hx1
  clear hx1
  go_wp2
  go_ret2
  exact ⟨none, 0, 0, rfl, ByF.nil_ _ _, HX1.out⟩
end Go.Proofs.YtjapeaoebjmpnaaGreatDoor
