import Derived.Test.YtmmnjecaedmleaaGreatDoorM32

/- Plain laws for LogEvery: a log that goes round: where its records stand; what is found of them. -/
namespace Go.Proofs.YtmmnjecaedmleaaGreatDoor
open Go.RowKit

def noImg : Img := ⟨0, 0, []⟩
/-- Where record n begins (from 1 on). -/
def posR (n : Nat) : Nat := 3 * (n - 1) % 7
/-- The disk's sector of part p of record n. -/
def atR (n p : Nat) : Int := 2 + (((posR n + p) % 7 : Nat) : Int)
/-- Part p of record n. -/
def rsec (A : List Img) (n p : Nat) : Bytes := recSec 9 n [A.getD (n - 1) noImg] p
def Dk.las (D : Dk) (k : Int) : Bytes := ((D.lasts k).map (·.data)).getD (zs 64)
/-- What may stand in a sector of the log. -/
def Secd (A : List Img) (M : Nat) (q : Int) (d : Bytes) : Prop := d = zs 64 ∨ ∃ n p, 1 ≤ n ∧ n ≤ M ∧ p < 3 ∧ q = atR n p ∧ d = rsec A n p
theorem atR_range (n p : Nat) : 2 ≤ atR n p ∧ atR n p ≤ 8 := by unfold atR; omega
theorem atR_inj {h m n p q : Nat} (h1 : 1 ≤ h) (m0 : h ≤ m) (m1 : m ≤ h + 1) (n0 : h ≤ n) (n1 : n ≤ h + 1) (hp : p < 3) (hq : q < 3) (e : atR m p = atR n q) : m = n ∧ p = q := by
  unfold atR posR at e
  have e' : (3 * (m - 1) % 7 + p) % 7 = (3 * (n - 1) % 7 + q) % 7 := by omega
  have k0 : ∀ r, r < 7 → ∀ p, p < 3 → ∀ q, q < 3 → (r + p) % 7 = (r + q) % 7 → p = q := by decide
  have k1 : ∀ r, r < 7 → ∀ p, p < 3 → ∀ q, q < 3 → (r + p) % 7 ≠ ((r + 3) % 7 + q) % 7 := by decide
  rcases (show n = m ∨ n = m + 1 ∨ m = n + 1 by omega) with rfl | rfl | rfl
  · exact ⟨rfl, k0 _ (Nat.mod_lt _ (by omega)) p hp q hq e'⟩
  · have s : 3 * (m + 1 - 1) % 7 = (3 * (m - 1) % 7 + 3) % 7 := by omega
    rw [s] at e'
    exact absurd e' (k1 _ (Nat.mod_lt _ (by omega)) p hp q hq)
  · have s : 3 * (n + 1 - 1) % 7 = (3 * (n - 1) % 7 + 3) % 7 := by omega
    rw [s] at e'
    exact absurd e'.symm (k1 _ (Nat.mod_lt _ (by omega)) q hq p hp)
theorem rsec_len (A : List Img) (n p : Nat) : (rsec A n p).length = 64 := recSec_length _ _ _ _
theorem rsec_app {A : List Img} {n : Nat} (h1 : 1 ≤ n) (h : n ≤ A.length) (x : Img) (p : Nat) : rsec (A ++ [x]) n p = rsec A n p := by
  unfold rsec
  rw [List.getD_eq_getElem?_getD, List.getD_eq_getElem?_getD, List.getElem?_append_left (by omega)]
theorem Secd.app {A : List Img} {M : Nat} (hM : M ≤ A.length) {q : Int} {d : Bytes} (h : Secd A M q d) (x : Img) : Secd (A ++ [x]) M q d := by
  rcases h with h | ⟨n, p, h1, h2, h3, h4, h5⟩
  · exact .inl h
  · exact .inr ⟨n, p, h1, h2, h3, h4, by rw [h5, rsec_app h1 (by omega)]⟩
theorem Secd.le {A : List Img} {M M' : Nat} (hM : M ≤ M') {q : Int} {d : Bytes} (h : Secd A M q d) : Secd A M' q d := by
  rcases h with h | ⟨n, p, h1, h2, h3, h4, h5⟩
  · exact .inl h
  · exact .inr ⟨n, p, h1, by omega, h3, h4, h5⟩
theorem secHead_rec (e n p : Nat) (l : List Img) (he : e < 18446744073709551616) (hn : n < 18446744073709551616) (hp : p < 256) (hl : l.length < 256) : secHead ((recSec e n l p).take 60) = (e, n, p, l.length) := by
  rw [recSec_take, labelBytes]
  simp only [List.append_assoc, secHead]
  rw [leVal_le8 _ he, drop_le, leVal_le8 _ hn, drop_le, leVal_le1 _ hp, drop_le, leVal_le1 _ hl]
theorem label_inj {n m p q : Nat} (hn : n < 18446744073709551616) (hm : m < 18446744073709551616) (hp : p < 256) (hq : q < 256) (h : labelBytes 9 n p 1 = labelBytes 9 m q 1) : n = m ∧ p = q := by
  have key : ∀ a b : Nat, a < 18446744073709551616 → b < 256 → secHead (labelBytes 9 a b 1) = (9, a, b, 1) := by
    intro a b ha hb
    have e := leVal_le1 1 (by omega) []
    rw [List.append_nil] at e
    rw [labelBytes]
    simp only [List.append_assoc, secHead]
    rw [leVal_le8 _ (by omega), drop_le, leVal_le8 _ ha, drop_le, leVal_le1 _ hb, drop_le, e]
  have h1 := key n p hn hp
  rw [h, key m q hm hq] at h1
  simp only [Prod.mk.injEq, true_and, and_true] at h1
  exact ⟨h1.1.symm, h1.2.symm⟩
theorem rsec_label (A : List Img) (n p : Nat) : ((rsec A n p).take 60).take 18 = labelBytes 9 n p 1 := by
  rw [rsec, recSec_take, List.take_left' (labelBytes_length ..)]
  rfl
theorem rsec_inj {A B : List Img} {n m p q : Nat} (hn : n < 18446744073709551616) (hm : m < 18446744073709551616) (hp : p < 256) (hq : q < 256) (h : rsec A n p = rsec B m q) : n = m ∧ p = q := by
  refine label_inj hn hm hp hq ?_
  rw [← rsec_label A n p, ← rsec_label B m q, h]
theorem rsec_ne (A : List Img) (n p : Nat) : rsec A n p ≠ zs 64 := by
  intro e
  have h := recSec_ok 9 n [A.getD (n - 1) noImg] p
  rw [show recSec 9 n [A.getD (n - 1) noImg] p = zs 64 from e, sumOk_zs] at h
  exact absurd h (by decide)
theorem bytes_three {b : Bytes} (h : 192 ≤ b.length) : b.take 192 = (secAt b 0 ++ secAt b 1) ++ secAt b 2 := by
  unfold secAt
  rw [Nat.zero_mul, List.drop_zero, show 192 = 64 + 64 + 64 by omega, List.take_add, List.take_add]
theorem recBytes_three (e n : Nat) (x : Img) : recBytes e n [x] = (recSec e n [x] 0 ++ recSec e n [x] 1) ++ recSec e n [x] 2 := by
  rw [recBytes, show secs [x].length = 3 from secs1]
  show ([] ++ recSec e n [x] 0 ++ recSec e n [x] 1) ++ recSec e n [x] 2 = _
  rw [List.nil_append]
theorem secOf_at (b : Bytes) (p : Nat) : secOf b p = secAt b p := by
  unfold secOf secAt
  rw [Nat.mul_comm]
/-- Images that were taken, one a record. -/
def Fines (A : List Img) : Prop := ∀ x ∈ A, x.fine
theorem Fines.get {A : List Img} (h : Fines A) {n : Nat} (h1 : 1 ≤ n) (h2 : n ≤ A.length) : (A.getD (n - 1) noImg).fine := by
  rw [List.getD_eq_getElem?_getD, List.getElem?_eq_getElem (by omega)]
  exact h _ (List.getElem_mem _)
/-- What is read first of sectors that stand in a log. -/
theorem recGet_secs {A : List Img} {M : Nat} (hA : Fines A) (hM : M ≤ A.length) (hM2 : A.length < 1000000) {b : Bytes} (hl : 192 ≤ b.length)
    (hs : ∀ p, p < 3 → secAt b p = zs 64 ∨ ∃ n q, 1 ≤ n ∧ n ≤ M ∧ q < 3 ∧ secAt b p = rsec A n q) :
    recGet b = none ∨ ∃ n, 1 ≤ n ∧ n ≤ M ∧ recGet b = some (9, n, [A.getD (n - 1) noImg], 3) ∧ ∀ p, p < 3 → secAt b p = rsec A n p := by
  have h0 : b.take 64 = secAt b 0 := by unfold secAt; rw [Nat.zero_mul, List.drop_zero]
  rcases hs 0 (by omega) with hz | ⟨n, q, n1, n2, q3, hn⟩
  · left
    have hf : recFirst b = none := by
      rw [recFirst, if_neg (by omega), h0, hz, sumOk_zs, if_pos rfl]
    rw [recGet, hf]
  · by_cases hq : q = 0
    · subst hq
      have hh := secHead_rec 9 n 0 [A.getD (n - 1) noImg] (by omega) (by omega) (by omega) (by show 1 < 256; omega)
      have hf : recFirst b = some (9, n, 1) := by
        rw [recFirst, if_neg (by omega), h0, hn, rsec, recSec_ok, if_neg (by decide), hh, if_neg]
        · rfl
        · simp only [List.length_singleton]
          rw [secs1]
          omega
      by_cases hall : ∀ p, p < 3 → secAt b p = rsec A n p
      · right
        refine ⟨n, n1, n2, ?_, hall⟩
        have hx := hA.get n1 (by omega)
        have hb : b = recBytes 9 n [A.getD (n - 1) noImg] ++ b.drop 192 := by
          conv => lhs; rw [← List.take_append_drop 192 b]
          rw [bytes_three hl, hall 0 (by omega), hall 1 (by omega), hall 2 (by omega), recBytes_three]
          rfl
        rw [hb]
        have h := recGet_put 9 n [A.getD (n - 1) noImg] (b.drop 192) (wrong_one 9 n _ (by omega) (by omega) hx.1) (by omega) (by omega) (fun y hy => by rw [List.mem_singleton.1 hy]; exact hx.2)
        rw [show secs [A.getD (n - 1) noImg].length = 3 from secs1] at h
        exact h
      · left
        rw [recGet, hf]
        show recGetT b 9 n 1 = none
        rw [recGetT, secs1, if_neg (by omega), if_pos]
        cases hc : allSecs b 9 n 1 3
        · rfl
        · exfalso
          unfold allSecs at hc
          simp only [decide_eq_true_eq] at hc
          refine hall (fun p hp => ?_)
          have h1 := hc p hp
          rw [secOk, secOf_at, Bool.and_eq_true] at h1
          rcases hs p hp with hz | ⟨m, r, m1, m2, r3, hm⟩
          · rw [hz, sumOk_zs] at h1
            exact absurd h1.1 (by decide)
          · rw [hm, rsec_label] at h1
            obtain ⟨rfl, rfl⟩ := label_inj (by omega) (by omega) (by omega) (by omega) (of_decide_eq_true (by simpa using h1.2) : labelBytes 9 m r 1 = labelBytes 9 n p 1)
            exact hm
    · left
      have hh := secHead_rec 9 n q [A.getD (n - 1) noImg] (by omega) (by omega) (by omega) (by show 1 < 256; omega)
      have hf : recFirst b = none := by
        rw [recFirst, if_neg (by omega), h0, hn, rsec, recSec_ok, if_neg (by decide), hh, if_pos]
        exact .inr (.inr (.inl hq))
      rw [recGet, hf]
theorem recGet_few {b : Bytes} {A : List Img} {M : Nat} (hM2 : M < 1000000) (hl : b.length = 64) (hs : secAt b 0 = zs 64 ∨ ∃ n q, 1 ≤ n ∧ n ≤ M ∧ q < 3 ∧ secAt b 0 = rsec A n q) : recGet b = none := by
  have h0 : b.take 64 = secAt b 0 := by unfold secAt; rw [Nat.zero_mul, List.drop_zero]
  rcases hs with hz | ⟨n, q, n1, n2, q3, hn⟩
  · have hf : recFirst b = none := by
      rw [recFirst, if_neg (by omega), h0, hz, sumOk_zs, if_pos rfl]
    rw [recGet, hf]
  · have hh := secHead_rec 9 n q [A.getD (n - 1) noImg] (by omega) (by omega) (by omega) (by show 1 < 256; omega)
    by_cases hq : q = 0
    · subst hq
      have hf : recFirst b = some (9, n, 1) := by
        rw [recFirst, if_neg (by omega), h0, hn, rsec, recSec_ok, if_neg (by decide), hh, if_neg]
        · rfl
        · simp only [List.length_singleton]
          rw [secs1]
          omega
      rw [recGet, hf]
      show recGetT b 9 n 1 = none
      rw [recGetT, secs1, if_pos (by omega)]
    · have hf : recFirst b = none := by
        rw [recFirst, if_neg (by omega), h0, hn, rsec, recSec_ok, if_neg (by decide), hh, if_pos]
        exact .inr (.inr (.inl hq))
      rw [recGet, hf]
/-- One step of a scan. -/
theorem scan_step {A : List Img} {M : Nat} (hA : Fines A) (hM : M ≤ A.length) (hM2 : A.length < 1000000) {b : Bytes} (hl : 192 ≤ b.length)
    (hs : ∀ p, p < 3 → secAt b p = zs 64 ∨ ∃ n q, 1 ≤ n ∧ n ≤ M ∧ q < 3 ∧ secAt b p = rsec A n q) (f n : Nat) (hn : n < 2000000) :
    ((∀ p, p < 3 → secAt b p = rsec A n p) ∧ n ≤ M ∧ scanL (f + 1) 9 n b = ⟨9, n, [A.getD (n - 1) noImg]⟩ :: scanL f 9 (n + 1) (b.drop 192)) ∨ (¬ (∀ p, p < 3 → secAt b p = rsec A n p) ∧ scanL (f + 1) 9 n b = []) := by
  rcases recGet_secs hA hM hM2 hl hs with hg | ⟨m, m1, m2, hg, hm⟩
  · right
    refine ⟨fun h => ?_, by rw [scanL, hg]⟩
    have h0 := h 0 (by omega)
    rcases hs 0 (by omega) with hz | ⟨k, q, k1, k2, q3, hk⟩
    · exact rsec_ne A n 0 (h0.symm.trans hz)
    · obtain ⟨rfl, rfl⟩ := rsec_inj (by omega) (by omega) (by omega) (by omega) (h0.symm.trans hk)
      have hx := hA.get k1 (by omega)
      have hb : b = recBytes 9 n [A.getD (n - 1) noImg] ++ b.drop 192 := by
        conv => lhs; rw [← List.take_append_drop 192 b]
        rw [bytes_three hl, h 0 (by omega), h 1 (by omega), h 2 (by omega), recBytes_three]
        rfl
      have hp := recGet_put 9 n [A.getD (n - 1) noImg] (b.drop 192) (wrong_one 9 n _ (by omega) (by omega) hx.1) (by omega) (by omega) (fun y hy => by rw [List.mem_singleton.1 hy]; exact hx.2)
      rw [← hb, hg] at hp
      simp at hp
  · by_cases e : m = n
    · subst e
      left
      refine ⟨hm, m2, ?_⟩
      rw [scanL, hg]
      simp only
      rw [if_neg (by simp), show u64n (m + 1) = m + 1 by unfold u64n; omega]
    · right
      refine ⟨fun h => ?_, ?_⟩
      · exact e (rsec_inj (by omega) (by omega) (by omega) (by omega) ((hm 0 (by omega)).symm.trans (h 0 (by omega)))).1
      · rw [scanL, hg]
        simp only
        rw [if_pos (.inr e)]
/-- The records that are found, from record h on, c of them. -/
def recsR (A : List Img) (h c : Nat) : List Rc := (List.range c).map (fun i => ⟨9, h + i, [A.getD (h + i - 1) noImg]⟩)
theorem secAt_drop (b : Bytes) (k i : Nat) : secAt (b.drop (64 * k)) i = secAt b (k + i) := by
  unfold secAt
  rw [List.drop_drop]
  congr 2
  omega
/-- The whole of a scan of seven sectors, turned so that the first record stands first. -/
theorem scan_seven {A : List Img} {M : Nat} (hA : Fines A) (hM : M ≤ A.length) (hM2 : A.length < 1000000) {b : Bytes} (hl : b.length = 448)
    (hs : ∀ p, p < 7 → secAt b p = zs 64 ∨ ∃ n q, 1 ≤ n ∧ n ≤ M ∧ q < 3 ∧ secAt b p = rsec A n q) (h : Nat) (hh : h ≤ M + 1) :
    ∃ c, c ≤ 2 ∧ scanL 449 9 h b = recsR A h c ∧ h + c ≤ M + 1 ∧ ∀ k, k < 2 → (∀ j, j ≤ k → ∀ p, p < 3 → secAt b (3 * j + p) = rsec A (h + j) p) → k < c := by
  rcases scan_step hA hM hM2 (b := b) (by omega) (fun p hp => hs p (by omega)) 448 h (by omega) with ⟨a1, a2, a3⟩ | ⟨a1, a2⟩
  · have e1 : ∀ i, secAt (b.drop 192) i = secAt b (3 + i) := fun i => secAt_drop b 3 i
    rcases scan_step hA hM hM2 (b := b.drop 192) (by rw [List.length_drop]; omega) (fun p hp => by rw [e1]; exact hs _ (by omega)) 447 (h + 1) (by omega) with ⟨b1, b2, b3⟩ | ⟨b1, b2⟩
    · have e2 : ∀ i, secAt ((b.drop 192).drop 192) i = secAt b (6 + i) := fun i => by rw [List.drop_drop]; exact secAt_drop b 6 i
      have hg : recGet ((b.drop 192).drop 192) = none := recGet_few (A := A) (M := M) (by omega) (by simp only [List.length_drop]; omega) (by rw [e2]; exact hs 6 (by omega))
      refine ⟨2, Nat.le_refl _, ?_, by omega, fun k hk _ => by omega⟩
      rw [a3, b3, scanL, hg]
      rfl
    · refine ⟨1, by omega, ?_, by omega, fun k hk hkk => ?_⟩
      · rw [a3, b2]
        rfl
      · match k, hk with
        | 0, _ => omega
        | 1, _ => exact absurd (fun p hp => by rw [e1]; exact hkk 1 (Nat.le_refl _) p hp) b1
  · refine ⟨0, by omega, by rw [a2]; rfl, by omega, fun k hk hkk => ?_⟩
    refine absurd (fun p hp => ?_) a1
    have := hkk 0 (Nat.zero_le _) p hp
    rw [Nat.mul_zero, Nat.zero_add] at this
    exact this
end Go.Proofs.YtmmnjecaedmleaaGreatDoor

/- Plain laws for LogEvery: the disk under a log that goes round; the power goes; what is found then. -/
namespace Go.Proofs.YtmmnjecaedmleaaGreatDoor
open Go.RowKit

theorem readB_len {D : Dk} (hz : D.Sized) (a : Int) (n : Nat) : (readB D a n).length = 64 * n := by
  induction n with
  | zero => rfl
  | succ n ih => rw [readB_sec, List.length_append, ih, sec_len hz]; omega
theorem readB_at {D : Dk} (hz : D.Sized) (a : Int) (n j : Nat) (hj : j < n) : secAt (readB D a n) j = D.sec (a + j) := by
  induction n with
  | zero => omega
  | succ n ih =>
    rw [readB_sec]
    by_cases h : j < n
    · rw [secAt_left (readB_len hz a n) h, ih h]
    · obtain rfl : j = n := by omega
      rw [secAt_right (readB_len hz a j) (Nat.le_refl _), Nat.sub_self]
      have hl := sec_len hz (a + j)
      unfold secAt
      rw [Nat.zero_mul, List.drop_zero, List.take_of_length_le (by omega)]
theorem rot_at {b : Bytes} (hl : b.length = 448) {a i : Nat} (ha : a ≤ 6) (hi : i < 7) : secAt (b.drop (64 * a) ++ b.take (64 * a)) i = secAt b ((a + i) % 7) := by
  have hd : (b.drop (64 * a)).length = 64 * (7 - a) := by rw [List.length_drop]; omega
  have ht : (b.take (64 * a)).length = 64 * a := by rw [List.length_take]; omega
  by_cases h : a + i < 7
  · rw [secAt_left hd (by omega), secAt_drop, Nat.mod_eq_of_lt h]
  · rw [secAt_right hd (by omega)]
    have e := secAt_left (b := b.drop (64 * a)) ht (i := i - (7 - a)) (by omega)
    rw [List.take_append_drop] at e
    rw [← e]
    congr 1
    omega
/-- What node 1's log leaves on the disk once the power has gone: its head tells record h; all up to s are whole; nothing beyond M. -/
structure Gone (A : List Img) (h s M : Nat) (D : Dk) : Prop where
  size : D.sectors = 37
  t1 : D.table 1 = 9
  last : D.last = 9
  szd : D.Szd
  dry : D.waits = []
  coh : ∀ n, Coh D n
  head : D.sec 1 = headBytes ⟨9, h, posR h⟩
  secs : ∀ q : Int, 2 ≤ q → q ≤ 8 → Secd A M q (D.sec q)
  rest : ∀ q : Int, 9 ≤ q → D.sec q = zs 64
  kept : ∀ n, h ≤ n → n ≤ s → ∀ p, p < 3 → D.sec (atR n p) = rsec A n p
  h1 : 1 ≤ h
  hS : h ≤ s + 1
  SM : s ≤ M
  MN : M ≤ A.length
  Nh : A.length ≤ h + 1
section
variable {A : List Img} {h s S M : Nat} {D : Dk}
theorem headR_right {h : Nat} (h1 : 1 ≤ h) : Hd.right ⟨9, h, posR h⟩ = true := by
  unfold Hd.right posR
  simp only [decide_eq_true_eq]
  omega
theorem Gone.rhead (g : Gone A h s M D) (ho : D.on = true) (hA : A.length < 1000000) : D.rhead sh0 1 = (⟨9, h, posR h⟩, true, 0) := by
  have hr : D.read 1 1 = (readB D 1 1, 0) := read_on ho g.size (at_ := 1) (n := 1) (by omega) (by omega) (by omega)
  have h1 := g.h1
  have hs := g.hS
  have hm := g.SM
  have hn := g.MN
  unfold Dk.rhead
  rw [logAt1]
  simp only
  rw [if_neg (by simp), hr]
  simp only
  rw [if_neg (by simp), readB_one, g.head, getHead_put _ (headR_right h1) (by show 9 < _; omega) (by show h < _; omega)]
  simp only
  have hd : decide (((posR h : Nat) : Int) < ((sh0.log : Nat) : Int) - 1) = true := by
    have e : ((sh0.log : Nat) : Int) - 1 = 7 := by decide
    rw [e]
    unfold posR
    simp only [decide_eq_true_eq]
    omega
  rw [hd]
theorem Gone.scan (g : Gone A h s M D) (ho : D.on = true) (hf : Fines A) (hA : A.length < 1000000) : ∃ c, D.scan sh0 1 = (recsR A h c, 0) ∧ c ≤ 2 ∧ h + c ≤ M + 1 ∧ s + 1 ≤ h + c := by
  have h1 := g.h1
  have hs := g.hS
  have hsm := g.SM
  have hmn := g.MN
  have hnh := g.Nh
  have hz := g.szd.now
  have hr : D.read 2 7 = (readB D 2 7, 0) := read_on ho g.size (at_ := 2) (n := 7) (by omega) (by omega) (by omega)
  have hlen := readB_len hz 2 7
  have hp6 : posR h ≤ 6 := by unfold posR; omega
  obtain ⟨b, hb⟩ : ∃ b, (readB D 2 7).drop (64 * posR h) ++ (readB D 2 7).take (64 * posR h) = b := ⟨_, rfl⟩
  have hbl : b.length = 448 := by rw [← hb, List.length_append, List.length_drop, List.length_take]; omega
  have hbs : ∀ i, i < 7 → secAt b i = D.sec (2 + (((posR h + i) % 7 : Nat) : Int)) := by
    intro i hi
    rw [← hb, rot_at hlen hp6 hi, readB_at hz 2 7 _ (by omega)]
  have hsec : ∀ i, i < 7 → secAt b i = zs 64 ∨ ∃ n q, 1 ≤ n ∧ n ≤ M ∧ q < 3 ∧ secAt b i = rsec A n q := by
    intro i hi
    rcases g.secs (2 + (((posR h + i) % 7 : Nat) : Int)) (by omega) (by omega) with e | ⟨n, q, n1, n2, q3, _, e⟩
    · exact .inl ((hbs i hi).trans e)
    · exact .inr ⟨n, q, n1, n2, q3, (hbs i hi).trans e⟩
  obtain ⟨c, c2, e1, e2, e3⟩ := scan_seven hf hmn hA hbl hsec h (by omega)
  refine ⟨c, ?_, c2, e2, ?_⟩
  · unfold Dk.scan
    rw [g.rhead ho hA, logAt1]
    simp only
    rw [if_neg (by decide)]
    have e : ((sh0.log : Int) - 1) = 7 := by decide
    rw [e, show (1 : Int) + 1 = 2 from rfl, hr]
    simp only
    rw [if_neg (by simp), scanB]
    simp only
    rw [hlen, hb, e1]
  · by_cases hlt : s + 1 ≤ h
    · omega
    · have hat : ∀ j, j ≤ s - h → ∀ p, p < 3 → secAt b (3 * j + p) = rsec A (h + j) p := by
        intro j hj p hp
        rw [hbs _ (by omega), ← g.kept (h + j) (by omega) (by omega) p hp]
        unfold atR posR
        congr 2
        omega
      have := e3 (s - h) (by omega) hat
      omega
end
/-- The disk under a log, with power: its lasting head tells record h; all up to S last; what waits is of the records behind, up to M. -/
structure Lo (A : List Img) (h S M : Nat) (D : Dk) : Prop where
  on : D.on = true
  size : D.sectors = 37
  t1 : D.table 1 = 9
  last : D.last = 9
  szd : D.Szd
  coh : Coh D 1
  head : D.las 1 = headBytes ⟨9, h, posR h⟩
  secs : ∀ q : Int, 2 ≤ q → q ≤ 8 → Secd A M q (D.las q)
  rest : ∀ q : Int, 9 ≤ q → D.las q = zs 64
  ws : ∀ x ∈ D.waits, ∃ n p, S < n ∧ n ≤ M ∧ p < 3 ∧ x.at_ = atR n p ∧ x.data = rsec A n p
  kept : ∀ n, h ≤ n → n ≤ S → ∀ p, p < 3 → D.las (atR n p) = rsec A n p
  h1 : 1 ≤ h
  hS : h ≤ S + 1
  SM : S ≤ M
  MN : M ≤ A.length
  Nh : A.length ≤ h + 1
/-- The records up to W are read. -/
def Wrt (A : List Img) (h W : Nat) (D : Dk) : Prop := ∀ n, h ≤ n → n ≤ W → ∀ p, p < 3 → D.sec (atR n p) = rsec A n p
section
variable {A : List Img} {h S M : Nat} {D : Dk}
theorem Lo.up (l : Lo A h S M D) {M' : Nat} (h0 : M ≤ M') (h1 : M' ≤ A.length) : Lo A h S M' D :=
  ⟨l.on, l.size, l.t1, l.last, l.szd, l.coh, l.head, fun q a b => (l.secs q a b).le h0, l.rest, fun x hx => by
    obtain ⟨n, p, a, b, c⟩ := l.ws x hx
    exact ⟨n, p, a, by omega, c⟩, l.kept, l.h1, l.hS, by have := l.SM; omega, h1, l.Nh⟩
/-- What waits where the power goes: the disk afterwards. -/
theorem cut_same {D : Dk} (ho : D.on = true) (keep : List Int) : (D.cut keep).sectors = D.sectors ∧ (D.cut keep).table = D.table ∧ (D.cut keep).last = D.last ∧ (D.cut keep).waits = [] ∧ (D.cut keep).on = false := by
  unfold Dk.cut
  rw [if_pos ho]
  exact ⟨rfl, rfl, rfl, rfl, rfl⟩
theorem maybe_las {D : Dk} {k : Int} {d : Bytes} (h : D.maybe k d) : d = D.las k ∨ ∃ x ∈ D.waits, x.at_ = k ∧ d = x.data := h
theorem Lo.cut (l : Lo A h S M D) (keep : List Int) : Gone A h S M (D.cut keep) := by
  obtain ⟨c1, c2, c3, c4, _⟩ := cut_same l.on keep
  have h1 := l.h1
  have hS := l.hS
  have hMN := l.MN
  have hNh := l.Nh
  have key : ∀ k, (D.cut keep).sec k = D.las k ∨ ∃ n p, S < n ∧ n ≤ M ∧ p < 3 ∧ k = atR n p ∧ (D.cut keep).sec k = rsec A n p := by
    intro k
    rcases maybe_las (cut_sec l.on keep k).1 with e | ⟨x, hx, hk, e⟩
    · exact .inl e
    · obtain ⟨n, p, a, b, c, d, e2⟩ := l.ws x hx
      exact .inr ⟨n, p, a, b, c, hk.symm.trans d, e.trans e2⟩
  refine ⟨c1.trans l.size, (congrFun c2 1).trans l.t1, c3.trans l.last, cut_szd l.szd keep, c4, fun n => (cut_sec l.on keep 0).2 1 l.coh n, ?_, fun q q0 q1 => ?_, fun q q0 => ?_, fun n n0 n1 p hp => ?_, h1, hS, l.SM, hMN, hNh⟩
  · rcases key 1 with e | ⟨n, p, _, _, _, e, _⟩
    · rw [e, l.head]
    · have := atR_range n p; omega
  · rcases key q with e | ⟨n, p, a, b, c, d, e⟩
    · rw [e]; exact l.secs q q0 q1
    · exact .inr ⟨n, p, by omega, b, c, d, e⟩
  · rcases key q with e | ⟨n, p, _, _, _, e, _⟩
    · rw [e]; exact l.rest q q0
    · have := atR_range n p; omega
  · rcases key (atR n p) with e | ⟨m, r, a, b, c, d, e⟩
    · rw [e]; exact l.kept n n0 n1 p hp
    · have := (atR_inj h1 n0 (by omega) (by omega) (by omega) hp c d).1
      omega
/-- A part of a record is written. -/
theorem Lo.wr1 (l : Lo A h S M D) {n p : Nat} (n0 : S < n) (n1 : n ≤ M) (hp : p < 3) {at_ : Int} {data : Bytes} {i : Nat} (ha : at_ + i = atR n p) (hd : secAt data i = rsec A n p) : Lo A h S M (D.wr1 1 at_ data i) := by
  have hr := rsec_len A n p
  refine ⟨l.on, l.size, l.t1, l.last, ⟨?_, l.szd.lasts, ?_⟩, l.coh.wr1 _ _ _, l.head, l.secs, l.rest, ?_, l.kept, l.h1, l.hS, l.SM, l.MN, l.Nh⟩
  · intro k d hk
    have hk' : upd D.now (at_ + i) (secAt data i) k = some d := hk
    unfold upd at hk'
    split at hk'
    · simp only [Option.some.injEq] at hk'
      rw [← hk', hd, hr]
    · exact l.szd.now k d hk'
  · intro x hx
    have hx' : x ∈ D.waits ++ [⟨1, at_ + i, D.seq + 1, secAt data i⟩] := hx
    rcases List.mem_append.1 hx' with hx | hx
    · exact l.szd.waits x hx
    · rw [List.mem_singleton.1 hx]
      show (secAt data i).length = 64
      rw [hd, hr]
  · intro x hx
    have hx' : x ∈ D.waits ++ [⟨1, at_ + i, D.seq + 1, secAt data i⟩] := hx
    rcases List.mem_append.1 hx' with hx | hx
    · exact l.ws x hx
    · rw [List.mem_singleton.1 hx]
      exact ⟨n, p, n0, n1, hp, ha, hd⟩
theorem wr1_sec (D : Dk) (node at_ : Int) (data : Bytes) (i : Nat) (k : Int) : (D.wr1 node at_ data i).sec k = if k = at_ + i then secAt data i else D.sec k := by
  show ((upd D.now (at_ + i) (secAt data i)) k).getD (zs 64) = _
  unfold upd
  split <;> rfl
theorem Lo.left (l : Lo A h S M D) (z : Int) : Lo A h S M { D with left := z } :=
  ⟨l.on, l.size, l.t1, l.last, ⟨l.szd.now, l.szd.lasts, l.szd.waits⟩, ⟨l.coh.node, l.coh.sorted, l.coh.above, l.coh.low, l.coh.lowL, l.coh.pos, l.coh.now⟩, l.head, l.secs, l.rest, l.ws, l.kept, l.h1, l.hS, l.SM, l.MN, l.Nh⟩
/-- Some parts of a record, from part i on. -/
structure Pt (A : List Img) (h S M : Nat) (W n i : Nat) (D : Dk) : Prop where
  lo : Lo A h S M D
  wrt : Wrt A h W D
  parts : ∀ p, p < i → D.sec (atR n p) = rsec A n p
theorem Pt.left {W n i : Nat} (l : Pt A h S M W n i D) (z : Int) : Pt A h S M W n i { D with left := z } := ⟨l.lo.left z, l.wrt, l.parts⟩
theorem Pt.wrN {W n i : Nat} (l : Pt A h S M W n i D) (hn : n = W + 1) (n0 : S < n) (n1 : n ≤ M) (hh : h ≤ n) {at_ : Int} {data : Bytes} : ∀ c : Nat, i + c ≤ 3 → (∀ j, j < c → at_ + j = atR n (i + j) ∧ secAt data j = rsec A n (i + j)) → Pt A h S M W n (i + c) (D.wrN 1 at_ data c)
  | 0, _, _ => l
  | c + 1, hc, hj => by
    have ih := l.wrN hn n0 n1 hh (at_ := at_) (data := data) c (by omega) (fun j hjj => hj j (by omega))
    obtain ⟨ha, hd⟩ := hj c (by omega)
    have hm := ih.lo.MN
    have hN := ih.lo.Nh
    have h1 := ih.lo.h1
    refine ⟨ih.lo.wr1 n0 n1 (p := i + c) (by omega) ha hd, fun m m0 m1 p hp => ?_, fun p hp => ?_⟩
    · show ((D.wrN 1 at_ data c).wr1 1 at_ data c).sec _ = _
      rw [wr1_sec, if_neg, ih.wrt m m0 m1 p hp]
      rw [ha]
      intro e
      have := (atR_inj h1 m0 (by omega) hh (by omega) hp (by omega) e).1
      omega
    · show ((D.wrN 1 at_ data c).wr1 1 at_ data c).sec _ = _
      rw [wr1_sec]
      by_cases e : p = i + c
      · subst e
        rw [if_pos ha.symm, hd]
      · rw [if_neg, ih.parts p (by omega)]
        rw [ha]
        intro e2
        have := (atR_inj h1 hh (by omega) hh (by omega) (by omega) (by omega) e2).2
        omega
theorem may1 (ho : D.on = true) : D.may 1 = 0 := by unfold Dk.may; rw [ho]; decide
theorem adm1 (ht : D.table 1 = 9) : D.admits 1 9 = 0 := by unfold Dk.admits; rw [show (1 : Int).toNat = 1 from rfl, ht]; decide
theorem barrier1 (ho : D.on = true) (ht : D.table 1 = 9) : D.barrier 1 9 = if D.goes.1 then (14, D.goes.2) else (0, D.goes.2.settle 1) := by
  unfold Dk.barrier
  rw [may1 ho, adm1 ht, if_neg (by simp), if_neg (by simp)]
theorem write1 (ho : D.on = true) (ht : D.table 1 = 9) (hz : D.sectors = 37) {at_ : Int} {data : Bytes} {c : Nat} (hl : data.length = 64 * c) (c1 : 1 ≤ c) (c2 : c ≤ 16) (h0 : 0 ≤ at_) (h2 : at_ + c ≤ 37) : D.write 1 9 at_ data = if D.goes.1 then (14, D.goes.2) else (0, D.goes.2.wrN 1 at_ data c) := by
  have hth : D.there at_ (c : Int) = true := there_of hz h0 h2
  have e : data.length / 64 = c := by omega
  unfold Dk.write
  rw [may1 ho, adm1 ht, if_neg (by simp), if_neg (by omega), if_neg (by simp), e, if_neg (by rw [hth]; simp)]
end
end Go.Proofs.YtmmnjecaedmleaaGreatDoor

/- Plain laws for LogEvery: the log's calls: Write, Sync. -/
namespace Go.Proofs.YtmmnjecaedmleaaGreatDoor
open Go.RowKit

/-- The entry of record n, where the records up to W are written. -/
def entR (A : List Img) (W n : Nat) : Ent := ⟨n, posR n, 3, if n ≤ W then [] else recBytes 9 n [A.getD (n - 1) noImg], decide (n ≤ W)⟩
/-- A log of the images A, one a record, of which those below h are free, those up to S last, those up to W are written. -/
def logA (A : List Img) (h S W : Nat) : Lg := ⟨sh0, 1, 9, 1, A.length + 1, h, 3 * A.length % 7, W, S, (List.range' h (A.length + 1 - h)).map (entR A W), false⟩
theorem secAt_take (b : Bytes) {c j : Nat} (h : j < c) : secAt (b.take (64 * c)) j = secAt b j := by
  unfold secAt
  rw [List.drop_take, List.take_take]
  congr 1
  omega
theorem rec_sec (A : List Img) (n : Nat) {p : Nat} (h : p < 3) : secAt (recBytes 9 n [A.getD (n - 1) noImg]) p = rsec A n p := by
  have e := recN_drop 9 n [A.getD (n - 1) noImg] 3 p h
  rw [recBytes, show secs [A.getD (n - 1) noImg].length = 3 from secs1]
  unfold secAt
  rw [Nat.mul_comm]
  exact e
section
variable {A : List Img} {h S M W : Nat} {D : Dk}
theorem put_go {x : Ent} {L : Lg} {n : Nat} (hs : L.s = sh0) (hnd : L.node = 1) (he : L.epoch = 9) (hb : L.base = 1) (x3 : x.n = 3) (xa : x.at_ = posR n) (xb : x.bytes = recBytes 9 n [A.getD (n - 1) noImg])
    (hn : n = W + 1) (n0 : S < n) (n1 : n ≤ M) (hh : h ≤ n) : ∀ (f i : Nat) (D : Dk), 3 ≤ i + f → i ≤ 3 → Pt A h S M W n i D →
    (∃ D', Dk.putFrom L x f i D = (0, D') ∧ Pt A h S M W n 3 D' ∧ D'.armed = D.armed) ∨ (D.armed = true ∧ ∃ D1 keep, Dk.putFrom L x f i D = (14, D1.cut keep) ∧ Lo A h S M D1)
  | 0, i, D, h0, h1, hp => by
    obtain rfl : i = 3 := by omega
    exact .inl ⟨D, rfl, hp, rfl⟩
  | f + 1, i, D, h0, h1, hp => by
    by_cases h3 : 3 ≤ i
    · obtain rfl : i = 3 := by omega
      refine .inl ⟨D, ?_, hp, rfl⟩
      rw [Dk.putFrom, if_pos (by omega)]
    · obtain ⟨a, ha⟩ : ∃ a, (posR n + i) % 7 = a := ⟨_, rfl⟩
      obtain ⟨c, hc⟩ : ∃ c, min 16 (min (3 - i) (7 - a)) = c := ⟨_, rfl⟩
      have ha7 : a < 7 := by omega
      have hc1 : 1 ≤ c ∧ c ≤ 16 ∧ i + c ≤ 3 ∧ a + c ≤ 7 := by omega
      have hat : putAt L x i = a := by
        unfold putAt
        rw [hs, xa]
        exact ha
      have hpn : putN L x i = c := by
        unfold putN
        rw [hat, x3, hs]
        exact hc
      obtain ⟨dt, hdt⟩ : ∃ dt, (x.bytes.drop (64 * i)).take (64 * c) = dt := ⟨_, rfl⟩
      have hdl : dt.length = 64 * c := by
        rw [← hdt, List.length_take, List.length_drop, xb, rec1_len]
        omega
      have hput : D.put1 L x i = D.write 1 9 (2 + (a : Int)) dt := by
        unfold Dk.put1
        rw [hat, hpn, hnd, he, hb, hdt]
        rfl
      have hj : ∀ j, j < c → (2 + (a : Int)) + (j : Int) = atR n (i + j) ∧ secAt dt j = rsec A n (i + j) := by
        intro j hj
        refine ⟨by unfold atR; omega, ?_⟩
        rw [← hdt, secAt_take _ hj, secAt_drop, xb, rec_sec A n (by omega)]
      have hw := write1 hp.lo.on hp.lo.t1 hp.lo.size hdl hc1.1 hc1.2.1 (at_ := 2 + (a : Int)) (by omega) (by omega)
      rw [Dk.putFrom, if_neg (by omega), hput, hw, hpn]
      rcases goes_cases D with ⟨g1, ga, g2⟩ | ⟨g1, z, g2⟩
      · right
        rw [g1, g2]
        simp only [if_true]
        rw [if_pos (by simp)]
        exact ⟨ga, D, D.stays, rfl, hp.lo⟩
      · rw [g1, g2]
        simp only [Bool.false_eq_true, if_false]
        rw [if_neg (by simp)]
        have hp2 := (hp.left z).wrN hn n0 n1 hh (at_ := 2 + (a : Int)) (data := dt) c hc1.2.2.1 hj
        have harm : (({ D with left := z } : Dk).wrN 1 (2 + (a : Int)) dt c).armed = D.armed := (wrN_same _ 1 (2 + (a : Int)) dt c).2.2.2.2.2.2.1
        have ih := put_go hs hnd he hb x3 xa xb hn n0 n1 hh f (i + c) _ (by omega) hc1.2.2.1 hp2
        rw [harm] at ih
        exact ih
theorem logA_get {k : Nat} (hk : k < A.length + 1 - h) : (logA A h S W).live[k]? = some (entR A W (h + k)) := by
  show ((List.range' h (A.length + 1 - h)).map (entR A W))[k]? = _
  rw [List.getElem?_map, List.getElem?_range' hk]
  simp
theorem logA_len : (logA A h S W).live.length = A.length + 1 - h := by
  show ((List.range' h (A.length + 1 - h)).map (entR A W)).length = _
  rw [List.length_map, List.length_range']
theorem logA_wrote {k : Nat} (hk : k < A.length + 1 - h) (hw : h + k = W + 1) : (logA A h S W).wrote k (entR A W (h + k)) = logA A h S (W + 1) := by
  have hl : ((List.range' h (A.length + 1 - h)).map (entR A W)).set k (entR A W (h + k)).done = (List.range' h (A.length + 1 - h)).map (entR A (W + 1)) := by
    refine List.ext_getElem? (fun j => ?_)
    rw [List.getElem?_set, List.getElem?_map, List.length_map, List.length_range']
    by_cases hj : j < A.length + 1 - h
    · rw [List.getElem?_map, List.getElem?_range' hj]
      by_cases e : k = j
      · subst e
        rw [if_pos rfl, if_pos hk]
        simp only [Option.map_some, Nat.one_mul]
        unfold entR Ent.done
        simp only
        rw [if_pos (by omega), show decide (h + k ≤ W + 1) = true by simp; omega]
      · rw [if_neg e]
        simp only [Option.map_some, Nat.one_mul]
        unfold entR
        by_cases hle : h + j ≤ W
        · rw [if_pos hle, if_pos (by omega), decide_eq_true hle, decide_eq_true (by omega)]
        · rw [if_neg hle, if_neg (by omega), decide_eq_false hle, decide_eq_false (by omega)]
    · rw [if_neg (by omega), List.getElem?_map, List.getElem?_eq_none (by rw [List.length_range']; omega)]
      rfl
  unfold Lg.wrote
  show ({ logA A h S W with live := ((List.range' h (A.length + 1 - h)).map (entR A W)).set k (entR A W (h + k)).done, written := h + k } : Lg) = _
  rw [hl, hw]
  rfl
theorem write_go : ∀ (f k n W : Nat) (D : Dk), k + f = A.length + 1 - h → h + k ≤ W + 1 → Lo A h S W D → Wrt A h W D →
    (∃ n' D', writeGo f k n D (logA A h S W) = (0, n', D', logA A h S A.length) ∧ Lo A h S A.length D' ∧ Wrt A h A.length D' ∧ D'.armed = D.armed) ∨ (D.armed = true ∧ ∃ D1 keep L' M, writeGo f k n D (logA A h S W) = (14, 0, D1.cut keep, L') ∧ Lo A h S M D1)
  | 0, k, n, W, D, hk, hW, hl, hw => by
    have h1 := hl.hS
    have h2 := hl.SM
    have h3 := hl.MN
    obtain rfl : W = A.length := by omega
    exact .inl ⟨n, D, rfl, hl, hw, rfl⟩
  | f + 1, k, n, W, D, hk, hW, hl, hw => by
    have hget := logA_get (A := A) (h := h) (S := S) (W := W) (k := k) (by omega)
    rw [writeGo, hget]
    simp only
    by_cases hle : h + k ≤ W
    · rw [if_pos (by unfold entR; simpa using hle)]
      exact write_go f (k + 1) n W D (by omega) (by omega) hl hw
    · have e : h + k = W + 1 := by omega
      have hSM := hl.SM
      have hMN := hl.MN
      rw [if_neg (by unfold entR; simpa using hle)]
      have hx : (entR A W (h + k)).bytes = recBytes 9 (h + k) [A.getD (h + k - 1) noImg] := by unfold entR; simp only; rw [if_neg hle]
      have hpt : Pt A h S (W + 1) W (h + k) 0 D := ⟨hl.up (by omega) (by omega), hw, fun p hp => by omega⟩
      rcases put_go (L := logA A h S W) (x := entR A W (h + k)) rfl rfl rfl rfl rfl rfl hx e (by omega) (by omega) (by omega) 3 0 D (by omega) (by omega) hpt with ⟨D', p1, p2, p3⟩ | ⟨p1, D1, keep, p2, p3⟩
      · have hp : D.putE (logA A h S W) (entR A W (h + k)) = (0, D') := p1
        rw [hp]
        simp only
        rw [if_neg (by simp), logA_wrote (by omega) e]
        have hw2 : Wrt A h (W + 1) D' := by
          intro m m0 m1 p hp3
          by_cases hm : m ≤ W
          · exact p2.wrt m m0 hm p hp3
          · obtain rfl : m = h + k := by omega
            exact p2.parts p hp3
        rcases write_go f (k + 1) (n + 1) (W + 1) D' (by omega) (by omega) p2.lo hw2 with ⟨n', D2, r1, r2, r3, r4⟩ | ⟨r1, r2⟩
        · exact .inl ⟨n', D2, r1, r2, r3, r4.trans p3⟩
        · exact .inr ⟨p3 ▸ r1, r2⟩
      · right
        have hp : D.putE (logA A h S W) (entR A W (h + k)) = (14, D1.cut keep) := p2
        rw [hp]
        simp only
        rw [if_pos (by simp)]
        exact ⟨p1, D1, keep, _, _, rfl, p3⟩
theorem log_write (hl : Lo A h S W D) (hw : Wrt A h W D) :
    (∃ n' D', logWrite D (logA A h S W) = (0, n', D', logA A h S A.length) ∧ Lo A h S A.length D' ∧ Wrt A h A.length D' ∧ D'.armed = D.armed) ∨ (D.armed = true ∧ ∃ D1 keep L' M, logWrite D (logA A h S W) = (14, 0, D1.cut keep, L') ∧ Lo A h S M D1) := by
  have h1 := hl.hS
  have h2 := hl.SM
  unfold logWrite
  rw [if_neg (by show ¬ (false = true); decide), logA_len]
  exact write_go (A.length + 1 - h) 0 0 W D (by omega) (by omega) hl hw
theorem Coh.maybeNow {n : Int} (hc : Coh D n) (k : Int) : D.sec k = D.las k ∨ ∃ x ∈ D.waits, x.at_ = k ∧ D.sec k = x.data := by
  unfold Dk.sec Dk.las
  rw [hc.now k]
  rcases overW_mem D.lasts D.waits k with e | ⟨x, hx, h1, e⟩
  · left; rw [e]
  · right
    exact ⟨x, hx, h1, by rw [e]; rfl⟩
theorem Coh.las_settle {n : Int} (hc : Coh D n) (k : Int) : (D.settle n).las k = D.sec k := by
  unfold Dk.las Dk.sec
  rw [hc.settle.1 k, hc.now k]
theorem Lo.settle (l : Lo A h S M D) (w : Wrt A h M D) : Lo A h M M (D.settle 1) ∧ Wrt A h M (D.settle 1) := by
  obtain ⟨s1, s2, s3⟩ := l.coh.settle
  refine ⟨⟨l.on, l.size, l.t1, l.last, settle_szd l.szd 1, s3 1, ?_, fun q q0 q1 => ?_, fun q q0 => ?_, fun x hx => ?_, fun n n0 n1 p hp => ?_, l.h1, by have := l.hS; have := l.SM; omega, Nat.le_refl _, l.MN, l.Nh⟩, fun n n0 n1 p hp => w n n0 n1 p hp⟩
  · rw [l.coh.las_settle]
    rcases l.coh.maybeNow 1 with e | ⟨x, hx, hk, e⟩
    · rw [e]; exact l.head
    · obtain ⟨n, p, _, _, _, d, _⟩ := l.ws x hx
      have := atR_range n p
      omega
  · rw [l.coh.las_settle]
    rcases l.coh.maybeNow q with e | ⟨x, hx, hk, e⟩
    · rw [e]; exact l.secs q q0 q1
    · obtain ⟨n, p, a, b, c, d, e2⟩ := l.ws x hx
      exact .inr ⟨n, p, by omega, b, c, hk.symm.trans d, e.trans e2⟩
  · rw [l.coh.las_settle]
    rcases l.coh.maybeNow q with e | ⟨x, hx, hk, e⟩
    · rw [e]; exact l.rest q q0
    · obtain ⟨n, p, _, _, _, d, _⟩ := l.ws x hx
      have := atR_range n p
      omega
  · rw [s2] at hx
    simp at hx
  · rw [l.coh.las_settle]
    exact w n n0 n1 p hp
/-- Sync: all last, or the power goes. -/
theorem log_sync (hl : Lo A h S W D) (hw : Wrt A h W D) :
    (∃ D', logSync D (logA A h S W) = (0, D', logA A h A.length A.length) ∧ Lo A h A.length A.length D' ∧ Wrt A h A.length D' ∧ D'.armed = D.armed) ∨ (D.armed = true ∧ ∃ D1 keep L' M, logSync D (logA A h S W) = (14, D1.cut keep, L') ∧ Lo A h S M D1) := by
  rcases log_write hl hw with ⟨n', D1, e1, l1, w1, a1⟩ | ⟨ha, D1, keep, L', M, e1, l1⟩
  · have hSN := l1.SM
    unfold logSync
    rw [e1]
    simp only
    rw [if_neg (by simp)]
    by_cases hs : S < A.length
    · rw [if_pos (by exact hs)]
      have hb : D1.barrier (logA A h S A.length).node (logA A h S A.length).epoch = if D1.goes.1 then (14, D1.goes.2) else (0, D1.goes.2.settle 1) := barrier1 l1.on l1.t1
      rw [hb]
      rcases goes_cases D1 with ⟨g1, ga, g2⟩ | ⟨g1, z, g2⟩
      · right
        rw [g1, g2]
        simp only [if_true]
        rw [if_pos (by simp)]
        exact ⟨a1 ▸ ga, D1, D1.stays, _, _, rfl, l1⟩
      · left
        rw [g1, g2]
        simp only [Bool.false_eq_true, if_false]
        rw [if_neg (by simp)]
        obtain ⟨s1, s2⟩ := (l1.left z).settle w1
        exact ⟨_, rfl, s1, s2, a1⟩
    · obtain rfl : S = A.length := by omega
      rw [if_neg (by exact hs)]
      exact .inl ⟨D1, rfl, l1, w1, a1⟩
  · right
    unfold logSync
    rw [e1]
    simp only
    rw [if_pos (by simp)]
    exact ⟨ha, D1, keep, _, _, rfl, l1⟩
end
end Go.Proofs.YtmmnjecaedmleaaGreatDoor

/- ring, of a log's entries: Drop: contract. -/
namespace Go.Proofs.YtmmnjecaedmleaaGreatDoor
open Go.RowKit
attribute [local go_sem ↓] Go.wp_at_zero Go.wp_at_succ

/-- What is left of a log where the records below one are dropped. -/
def Lg.dropped (L : Lg) (below : Nat) : List Ent := L.live.dropWhile (fun x => decide (x.lsn < below))
def Lg.freeAt (L : Lg) (below : Nat) : Nat := match L.dropped below with
  | [] => L.at_
  | x :: _ => x.at_
def logFree (D : Dk) (L : Lg) (below : Nat) : Int × Dk × Lg :=
  if L.broken then (13, D, L) else if L.synced + 1 < below then (1, D, L) else if below ≤ L.first then (0, D, L)
  else if (D.logHead L below (L.freeAt below)).1 ≠ 0 then ((D.logHead L below (L.freeAt below)).1, (D.logHead L below (L.freeAt below)).2, L.fail (D.logHead L below (L.freeAt below)).1)
  else (0, (D.logHead L below (L.freeAt below)).2, { L with live := L.dropped below, first := below, synced := max L.synced L.written })
/-- append, of cells wherever they lie, at any place in their block. -/
theorem wpL_app4 {P : Program} {ops : Array Oper} {rest : List Oper} {o : Oper} {a : Act} {Q : Exit → Act → World → Prop} {w : World} {t e : TypeId} {z : Value} {size bytes : Nat}
    (E : Elem P t e z size bytes) (s x : Operand) (hgd : o.guard = none) (ho : o.op = .call { callee := .builtin .append, args := #[s, x], argTypes := #[t, t] })
    (base : Nat) (v : Value) (n : Nat) (xs : List Value) (hs : a.eval s = v) (hown : w.ownsRow base e size v n xs)
    (B off m c : Nat) (cs : List Value) (hx : a.eval x = .slice (some ⟨B, off, none⟩) m c) (hB : ∀ j u, cs[j]? = some u → w.cell? ⟨B, off + j, none⟩ = some u) (hl : cs.length = m * size) (h1 : ∀ u ∈ cs, u.oneCell' = true)
    (hn : (n + m) * bytes ≤ 140737488355328) (hb : 0 < bytes) (hbase : base ≤ w.heap.size)
    (h : ∀ v' w', w'.ownsRow base e size v' (n + m) (xs ++ cs) → w.grownBy w' v.ownBlock → wpList P ops Q rest (a.put o.dst v') w') :
    wpList P ops Q (o :: rest) a w := by
  obtain ⟨hu, i, hi, hz0, hz1, hz2, hzs, h0⟩ := E
  have h63 : n + m ≤ maxLen := by
    have := Nat.le_mul_of_pos_right (n + m) hb
    unfold maxLen; omega
  refine wpList_append_own w hgd s x t ho base e i z size bytes hu hi hz0 hz1 hz2 hzs h0 v n xs hs hown ⟨B, off, none⟩ m c cs hx hl (fun j u hu => ?_) h1 h63 hn hbase (fun v' w' h2 h3 _ => h v' w' h2 h3)
  have hadd : (⟨B, off, none⟩ : Addr).add j = ⟨B, off + j, none⟩ := by unfold Addr.add; split <;> simp_all
  rw [hadd]
  exact hB j u hu
theorem und_ents : Tryz.prog.underlying 214 = some (.slice 131) := by kernel_rfl
theorem size_ent (w : World) : (Go.sizeOf 131).run Tryz.prog w = .ok 5 w := by kernel_rfl
/-- A slice of entries from an index on. -/
theorem tail_ent (W : World) (g off n k c : Nat) (hk : k ≤ n) : (Instr.slice 214 (.slice (some ⟨g, off, none⟩) n c) (some (.int .i64 (k : Int))) none none).run Tryz.prog W = .ok (.slice (some ⟨g, if c = k then off else off + k * 5, none⟩) (n - k) (c - k)) W := by
  have ht' : Tryz.prog.underlying 214 = some (.slice (Tryz.prog.elem 214)) := by simp [Program.elem, und_ents]
  have he : Tryz.prog.elem 214 = 131 := by simp [Program.elem, und_ents]
  rw [Go.run_slice_l W _ _ _ _ ht' .i64 _ (by omega) (by omega), he, size_ent]
  by_cases h0 : c = k
  · simp [Result.andThen, sliced, h0]
  · by_cases h1 : k = 0
    · subst h1; simp [Result.andThen, sliced, Addr.add, h0]
    · have h2 : ¬ k * 5 = 0 := by omega
      simp [Result.andThen, sliced, Addr.add, h0, h1, h2]
theorem flat_drop (l : List Ent) (k : Nat) : (l.flatMap Ent.cells).drop (k * 5) = (l.drop k).flatMap Ent.cells := by
  induction l generalizing k with
  | nil => simp
  | cons a l ih =>
    cases k with
    | zero => simp
    | succ k =>
      rw [List.drop_succ_cons, ← ih k, List.flatMap_cons]
      have hl : a.cells.length = 5 := rfl
      rw [show (k + 1) * 5 = a.cells.length + k * 5 by omega, List.drop_append]
      simp
section
variable {w : World} {r : Nat} {lv : Value} {l : List Ent}
set_option maxHeartbeats 1600000 in
set_option maxRecDepth 100000 in
theorem RingDrop_none (h : RingR w r lv l) :
    Calls Tryz.prog 170 #[.pointer (some ⟨r, 0, none⟩), .int .i64 0] w fun e w' => e = .returned (.int .i64 0) ∧ w = w' := by
  have m1 : max (0 : Int) 0 = 0 := rfl
  have m2 : min (0 : Int) (l.length : Int) = 0 := by omega
  have H := Lib.hid h
  clear h
  go_enter Tryz.func170, Tryz.ntmps170
  go_wp2_with fail
  refine (RingLen_ok H.out).mono ?_
  rintro e w1 ⟨rfl, rfl⟩
  go_wp2_with fail
  go_ret
  exact ⟨rfl, rfl⟩
set_option maxHeartbeats 1600000 in
set_option maxRecDepth 100000 in
theorem RingDrop_some (h : RingR w r lv l) (n : Nat) (h0 : 0 < n) (hn : n ≤ l.length) (hl : l.length ≤ 100000) :
    Calls Tryz.prog 170 #[.pointer (some ⟨r, 0, none⟩), .int .i64 n] w fun e w' => e = .returned (.int .i64 n) ∧ (∃ lv', RingR w' r lv' (l.drop n) ∧ ∀ k, lv'.ownBlock = some k → w.heap.size ≤ k ∧ k < w'.heap.size) ∧ Chg (fun k => k = r) w w' := by
  obtain ⟨g, c, hv⟩ : ∃ g c, lv = .slice (some ⟨g, 0, none⟩) l.length c := by
    rcases h.row.2 with ⟨hv, hn⟩ | ⟨g, cap, cur, hv, _⟩
    · omega
    · exact ⟨_, _, hv⟩
  subst hv
  have H := Lib.hid h
  have c0 : w.cell? ⟨r, 0, none⟩ = some (.slice (some ⟨g, 0, none⟩) l.length c) := cell_of_blk h.blk 0 rfl
  have m1 : max (n : Int) 0 = n := by omega
  have m2 : min (n : Int) (l.length : Int) = n := by omega
  have t0 : decide (0 < (n : Int)) = true := by simp only [decide_eq_true_eq]; omega
  have sr := fun W : World => tail_ent W g 0 l.length n c hn
  have hcs : ∀ j u, ((l.drop n).flatMap Ent.cells)[j]? = some u → w.cell? ⟨g, (if c = n then 0 else 0 + n * 5) + j, none⟩ = some u := by
    intro j u hu
    rw [← flat_drop, List.getElem?_drop] at hu
    have hlt := (List.getElem?_eq_some_iff.1 hu).1
    rw [flat_ent_length] at hlt
    have hcl : l.length ≤ c := by
      rcases h.row.2 with ⟨hv, _⟩ | ⟨g', cap, cur, hv, _, _, hle, _⟩
      · simp at hv
      · simp only [Value.slice.injEq] at hv
        rw [hv.2.2]; exact hle
    rw [if_neg (by omega), Nat.zero_add]
    exact row_cell h.row rfl hu
  generalize (if c = n then 0 else 0 + n * 5) = off at sr hcs
  have HCS := Lib.hid hcs
  have hrz : r < w.heap.size := blk_lt h.blk
  clear h hcs
  go_enter Tryz.func170, Tryz.ntmps170
  go_wp2_with fail
  refine (RingLen_ok H.out).mono ?_
  rintro e w1 ⟨rfl, rfl⟩
  go_wp2_with (at_builtin; refine Halt1.hold ?_)
  refine Halt1.go ?_
  refine wpL_app4 el_ent _ _ rfl rfl w.heap.size (.slice none 0 0) 0 [] rfl (World.ownsRow_nil _ _ _ _) g off (l.length - n) (c - n) ((l.drop n).flatMap Ent.cells) rfl HCS.out ?_ ?_ (by omega) (by omega) (Nat.le_refl _) ?_
  · rw [flat_ent_length, List.length_drop]
  · intro u hu
    obtain ⟨x, _, hx⟩ := List.mem_flatMap.1 hu
    exact ent_one x u hx
  · intro v2 w2 hown2 hgrow2
    have hb2 := hgrow2.block r hrz (by simp [Value.ownBlock])
    have HB2 := Lib.hid (show w2.heap[r]? = some (.cells #[.slice (some ⟨g, 0, none⟩) l.length c, .int .i64 100000] 244 (0, 0)) from hb2.trans H.out.blk)
    have f2 := free_of_blk HB2.out 0
    have c2 := cell_of_blk HB2.out 0 rfl
    have HO2 := Lib.hid hown2
    have HC2 := Lib.hid ((Chg.refl No w).grown hgrow2 (fun k hk => by simp [Value.ownBlock] at hk))
    obtain ⟨va, vn, vc, hvv⟩ : ∃ a n c, v2 = .slice a n c := by
      rcases hown2.2 with ⟨rfl, _⟩ | ⟨g, cap, cur, rfl, _⟩
      · exact ⟨_, _, _, rfl⟩
      · exact ⟨_, _, _, rfl⟩
    subst hvv
    clear hown2 hgrow2 hb2 sr c0
    go_wp2_with fail
    go_ret
    have ho := HO2.out
    rw [Nat.zero_add, List.nil_append] at ho
    have hob : (Value.slice va vn vc).ownBlock ≠ some r := fun e => by have := (ho.lt _ e).1; omega
    refine ⟨rfl, ⟨.slice va vn vc, ⟨blk_set HB2.out 0 _, ?_, hob⟩, fun k hk => ?_⟩, Chg.setCell (F := fun k => k = r) HC2.out.of_no (p := ⟨r, 0, none⟩) (.inl rfl) _⟩
    · rw [List.length_drop]
      exact ownsRow_base (row_set_ne ho _ hob) (Nat.zero_le _)
    · exact ⟨(ho.lt k hk).1, by simpa [World.setCell] using (ho.lt k hk).2⟩
theorem RingDrop_ok (h : RingR w r lv l) (n : Nat) (hn : n ≤ l.length) (hl : l.length ≤ 100000) :
    Calls Tryz.prog 170 #[.pointer (some ⟨r, 0, none⟩), .int .i64 n] w fun e w' => e = .returned (.int .i64 n) ∧ (∃ lv', RingR w' r lv' (l.drop n) ∧ ∀ k, lv'.ownBlock = some k → lv.ownBlock = some k ∨ w.heap.size ≤ k ∧ k < w'.heap.size) ∧ Chg (fun k => k = r) w w' := by
  by_cases h0 : n = 0
  · subst h0
    refine (RingDrop_none h).mono ?_
    rintro e w' ⟨rfl, rfl⟩
    exact ⟨rfl, ⟨lv, by rw [List.drop_zero]; exact h, fun k hk => .inl hk⟩, Chg.refl _ _⟩
  · refine (RingDrop_some h n (by omega) hn hl).mono ?_
    rintro e w' ⟨rfl, ⟨lv', h1, h2⟩, h3⟩
    exact ⟨rfl, ⟨lv', h1, fun k hk => .inr (h2 k hk)⟩, h3⟩
end
end Go.Proofs.YtmmnjecaedmleaaGreatDoor

/- Plain laws for LogEvery: the log's calls: Free, Add; all of them together. -/
namespace Go.Proofs.YtmmnjecaedmleaaGreatDoor
open Go.RowKit

section
variable {A : List Img} {h S M W : Nat} {D : Dk}
theorem drop_range (A : List Img) (W V : Nat) : ∀ (c h : Nat), h ≤ V → V ≤ h + c → ((List.range' h c).map (entR A W)).dropWhile (fun x => decide (x.lsn < V)) = (List.range' V (h + c - V)).map (entR A W)
  | 0, h, h0, h1 => by
    rw [show h + 0 - V = 0 by omega]
    rfl
  | c + 1, h, h0, h1 => by
    rw [List.range'_succ, List.map_cons, List.dropWhile_cons]
    by_cases e : h < V
    · rw [if_pos (by show decide ((entR A W h).lsn < V) = true; simpa [entR] using e), drop_range A W V c (h + 1) (by omega) (by omega)]
      congr 2
      omega
    · obtain rfl : h = V := by omega
      rw [if_neg (by show ¬ decide ((entR A W h).lsn < h) = true; simp [entR]), show h + (c + 1) - h = c + 1 by omega, List.range'_succ, List.map_cons]
theorem logA_dropped {V : Nat} (h0 : h ≤ V) (h1 : V ≤ A.length + 1) : (logA A h S W).dropped V = (List.range' V (A.length + 1 - V)).map (entR A W) := by
  unfold Lg.dropped
  show ((List.range' h (A.length + 1 - h)).map (entR A W)).dropWhile _ = _
  rw [drop_range A W V _ h h0 (by omega)]
  congr 2
  omega
theorem logA_freeAt {V : Nat} (h0 : h ≤ V) (h1 : V ≤ A.length + 1) (hV : 1 ≤ V) : (logA A h S W).freeAt V = posR V := by
  unfold Lg.freeAt
  rw [logA_dropped h0 h1]
  by_cases e : V = A.length + 1
  · subst e
    rw [Nat.sub_self]
    show 3 * A.length % 7 = posR (A.length + 1)
    unfold posR
    rfl
  · obtain ⟨c, hc⟩ : ∃ c, A.length + 1 - V = c + 1 := ⟨A.length - V, by omega⟩
    rw [hc, List.range'_succ, List.map_cons]
    rfl
/-- The head of a log waits above it. -/
theorem head_wait (hl : Lo A h S W D) (hw : Wrt A h W D) {V : Nat} (h0 : h < V) (h1 : V ≤ S + 1) :
    Coh (D.wrN 1 1 (headBytes ⟨9, V, posR V⟩) 1) 1 ∧ (∀ k, (D.wrN 1 1 (headBytes ⟨9, V, posR V⟩) 1).sec k = if k = 1 then headBytes ⟨9, V, posR V⟩ else D.sec k) ∧ (D.wrN 1 1 (headBytes ⟨9, V, posR V⟩) 1).Szd ∧
    (∀ k, (D.wrN 1 1 (headBytes ⟨9, V, posR V⟩) 1).las k = D.las k) ∧ ∀ x ∈ (D.wrN 1 1 (headBytes ⟨9, V, posR V⟩) 1).waits, x ∈ D.waits ∨ x.at_ = 1 ∧ x.data = headBytes ⟨9, V, posR V⟩ := by
  have hlen := headBytes_len ⟨9, V, posR V⟩
  have h00 : secAt (headBytes ⟨9, V, posR V⟩) 0 = headBytes ⟨9, V, posR V⟩ := by
    unfold secAt
    rw [Nat.zero_mul, List.drop_zero, List.take_of_length_le (by omega)]
  refine ⟨hl.coh.wrN _ _ 1, fun k => ?_, wrN_szd hl.szd 1 1 _ 1 (by omega) 1 (Nat.le_refl _), fun k => rfl, fun x hx => ?_⟩
  · rw [wrN_sec]
    by_cases hk : k = 1
    · subst hk
      rw [if_pos (by omega), if_pos rfl, show ((1 : Int) - 1).toNat = 0 from rfl]
      exact h00
    · rw [if_neg (by omega), if_neg hk]
  · have hx' : x ∈ D.waits ++ [⟨1, 1 + ((0 : Nat) : Int), D.seq + 1, secAt (headBytes ⟨9, V, posR V⟩) 0⟩] := hx
    rcases List.mem_append.1 hx' with hx | hx
    · exact .inl hx
    · rw [List.mem_singleton.1 hx]
      exact .inr ⟨by show 1 + ((0 : Nat) : Int) = 1; omega, h00⟩
theorem head_cut (hl : Lo A h S W D) (hw : Wrt A h W D) {V : Nat} (h0 : h < V) (h1 : V ≤ S + 1) (keep : List Int) :
    ∃ h', h' ≤ V ∧ Gone A h' S W ((D.wrN 1 1 (headBytes ⟨9, V, posR V⟩) 1).cut keep) := by
  obtain ⟨c, hs, hz, hlas, hws⟩ := head_wait hl hw h0 h1
  obtain ⟨a0, a1, _, a3, _, a5, _⟩ := wrN_same D 1 1 (headBytes ⟨9, V, posR V⟩) 1
  generalize D.wrN 1 1 (headBytes ⟨9, V, posR V⟩) 1 = D2 at c hs hz hlas hws a0 a1 a3 a5
  have ho : D2.on = true := a1.trans hl.on
  obtain ⟨c1, c2, c3, c4, _⟩ := cut_same ho keep
  have g1 := hl.h1
  have g2 := hl.hS
  have g3 := hl.SM
  have g4 := hl.MN
  have g5 := hl.Nh
  have key : ∀ k, k ≠ 1 → (D2.cut keep).sec k = D.las k ∨ ∃ n p, S < n ∧ n ≤ W ∧ p < 3 ∧ k = atR n p ∧ (D2.cut keep).sec k = rsec A n p := by
    intro k hk1
    rcases maybe_las (cut_sec ho keep k).1 with e | ⟨x, hx, hk, e⟩
    · exact .inl (e.trans (hlas k))
    · rcases hws x hx with hx | ⟨e1, _⟩
      · obtain ⟨n, p, a, b, c, d, e2⟩ := hl.ws x hx
        exact .inr ⟨n, p, a, b, c, hk.symm.trans d, e.trans e2⟩
      · exact absurd (hk.symm.trans e1) hk1
  have hsec : ∀ q : Int, 2 ≤ q → q ≤ 8 → Secd A W q ((D2.cut keep).sec q) := by
    intro q q0 q1
    rcases key q (by omega) with e | ⟨n, p, a, b, c, d, e⟩
    · rw [e]; exact hl.secs q q0 q1
    · exact .inr ⟨n, p, by omega, b, c, d, e⟩
  have hrest : ∀ q : Int, 9 ≤ q → (D2.cut keep).sec q = zs 64 := by
    intro q q0
    rcases key q (by omega) with e | ⟨n, p, _, _, _, e, _⟩
    · rw [e]; exact hl.rest q q0
    · have := atR_range n p; omega
  have hkept : ∀ n, h ≤ n → n ≤ S → ∀ p, p < 3 → (D2.cut keep).sec (atR n p) = rsec A n p := by
    intro n n0 n1 p hp
    have hr := atR_range n p
    rcases key (atR n p) (by omega) with e | ⟨m, r, a, b, c, d, e⟩
    · rw [e]; exact hl.kept n n0 n1 p hp
    · have := (atR_inj g1 n0 (by omega) (by omega) (by omega) hp c d).1
      omega
  have hhead : (D2.cut keep).sec 1 = headBytes ⟨9, h, posR h⟩ ∨ (D2.cut keep).sec 1 = headBytes ⟨9, V, posR V⟩ := by
    rcases maybe_las (cut_sec ho keep 1).1 with e | ⟨x, hx, hk, e⟩
    · exact .inl (e.trans ((hlas 1).trans hl.head))
    · rcases hws x hx with hx | ⟨_, e1⟩
      · obtain ⟨n, p, _, _, _, d, _⟩ := hl.ws x hx
        have := atR_range n p
        omega
      · exact .inr (e.trans e1)
  rcases hhead with e | e
  · exact ⟨h, by omega, ⟨c1.trans (a0.trans hl.size), (congrFun (c2.trans a3) 1).trans hl.t1, c3.trans (a5.trans hl.last), cut_szd hz keep, c4, fun n => (cut_sec ho keep 0).2 1 c n, e, hsec, hrest, hkept, g1, g2, g3, g4, g5⟩⟩
  · exact ⟨V, Nat.le_refl _, ⟨c1.trans (a0.trans hl.size), (congrFun (c2.trans a3) 1).trans hl.t1, c3.trans (a5.trans hl.last), cut_szd hz keep, c4, fun n => (cut_sec ho keep 0).2 1 c n, e, hsec, hrest, fun n n0 n1 => hkept n (by omega) n1, by omega, h1, g3, g4, by omega⟩⟩
theorem head_settle (hl : Lo A h S W D) (hw : Wrt A h W D) {V : Nat} (h0 : h < V) (h1 : V ≤ S + 1) :
    Lo A V W W ((D.wrN 1 1 (headBytes ⟨9, V, posR V⟩) 1).settle 1) ∧ Wrt A V W ((D.wrN 1 1 (headBytes ⟨9, V, posR V⟩) 1).settle 1) := by
  obtain ⟨c, hs, hz, hlas, hws⟩ := head_wait hl hw h0 h1
  obtain ⟨a0, a1, _, a3, _, a5, _⟩ := wrN_same D 1 1 (headBytes ⟨9, V, posR V⟩) 1
  generalize D.wrN 1 1 (headBytes ⟨9, V, posR V⟩) 1 = D2 at c hs hz hlas hws a0 a1 a3 a5
  obtain ⟨s1, s2, s3⟩ := c.settle
  have g1 := hl.h1
  have g2 := hl.hS
  have g3 := hl.SM
  have g4 := hl.MN
  have g5 := hl.Nh
  have hsec : ∀ k, k ≠ 1 → (D2.settle 1).las k = D.sec k := fun k hk => by rw [c.las_settle, hs, if_neg hk]
  have hw2 : Wrt A V W (D2.settle 1) := fun n n0 n1 p hp => by
    have hr := atR_range n p
    show D2.sec _ = _
    rw [hs, if_neg (by omega)]
    exact hw n (by omega) n1 p hp
  refine ⟨⟨a1.trans hl.on, a0.trans hl.size, (congrFun a3 1).trans hl.t1, a5.trans hl.last, settle_szd hz 1, s3 1, by rw [c.las_settle, hs, if_pos rfl], fun q q0 q1 => ?_, fun q q0 => ?_, fun x hx => by rw [s2] at hx; simp at hx, fun n n0 n1 p hp => ?_, by omega, by omega, Nat.le_refl _, g4, by omega⟩, hw2⟩
  · rw [hsec q (by omega)]
    rcases hl.coh.maybeNow q with e | ⟨x, hx, hk, e⟩
    · rw [e]; exact hl.secs q q0 q1
    · obtain ⟨n, p, a, b, c, d, e2⟩ := hl.ws x hx
      exact .inr ⟨n, p, by omega, b, c, hk.symm.trans d, e.trans e2⟩
  · rw [hsec q (by omega)]
    rcases hl.coh.maybeNow q with e | ⟨x, hx, hk, e⟩
    · rw [e]; exact hl.rest q q0
    · obtain ⟨n, p, _, _, _, d, _⟩ := hl.ws x hx
      have := atR_range n p
      omega
  · rw [c.las_settle]
    exact hw2 n n0 n1 p hp
/-- Free. -/
theorem log_free (hl : Lo A h S W D) (hw : Wrt A h W D) (V : Nat) :
    (S + 1 < V ∧ logFree D (logA A h S W) V = (1, D, logA A h S W)) ∨ (V ≤ h ∧ logFree D (logA A h S W) V = (0, D, logA A h S W)) ∨
    (h < V ∧ ∃ D', logFree D (logA A h S W) V = (0, D', logA A V W W) ∧ Lo A V W W D' ∧ Wrt A V W D' ∧ D'.armed = D.armed) ∨
    (h < V ∧ D.armed = true ∧ ∃ D' L' h', logFree D (logA A h S W) V = (14, D', L') ∧ D'.on = false ∧ h' ≤ V ∧ Gone A h' S W D') := by
  have g1 := hl.h1
  have g2 := hl.hS
  have g3 := hl.SM
  have g4 := hl.MN
  by_cases hv : S + 1 < V
  · left
    refine ⟨hv, ?_⟩
    unfold logFree
    rw [if_neg (by show ¬ (false = true); decide), if_pos (by exact hv)]
  · right
    by_cases hv2 : V ≤ h
    · left
      refine ⟨hv2, ?_⟩
      unfold logFree
      rw [if_neg (by show ¬ (false = true); decide), if_neg (by exact hv), if_pos (by exact hv2)]
    · right
      have hfa := logA_freeAt (A := A) (h := h) (S := S) (W := W) (V := V) (by omega) (by omega) (by omega)
      have hdr := logA_dropped (A := A) (h := h) (S := S) (W := W) (V := V) (by omega) (by omega)
      have hlen := headBytes_len ⟨9, V, posR V⟩
      have hwr := write1 hl.on hl.t1 hl.size (at_ := 1) (data := headBytes ⟨9, V, posR V⟩) (c := 1) (by omega) (by omega) (by omega) (by omega) (by omega)
      have hlh : D.logHead (logA A h S W) V (posR V) = if (D.write 1 9 1 (headBytes ⟨9, V, posR V⟩)).1 ≠ 0 then D.write 1 9 1 (headBytes ⟨9, V, posR V⟩) else (D.write 1 9 1 (headBytes ⟨9, V, posR V⟩)).2.barrier 1 9 := by
        unfold Dk.logHead
        show (if Hd.right ⟨9, V, posR V⟩ = false then _ else _) = _
        rw [headR_right (by omega), if_neg (by decide)]
        rfl
      have hgo : ∀ c D', D.logHead (logA A h S W) V (posR V) = (c, D') → logFree D (logA A h S W) V = if c ≠ 0 then (c, D', (logA A h S W).fail c) else (0, D', { logA A h S W with live := (logA A h S W).dropped V, first := V, synced := max S W }) := by
        intro c D' e
        unfold logFree
        rw [if_neg (by show ¬ (false = true); decide), if_neg (by exact hv), if_neg (by exact hv2), hfa, e]
        rfl
      rcases goes_cases D with ⟨q1, qa, q2⟩ | ⟨q1, z, q2⟩
      · right
        have hL : D.logHead (logA A h S W) V (posR V) = (14, D.cut D.stays) := by rw [hlh, hwr, q1, q2]; rfl
        refine ⟨by omega, qa, D.cut D.stays, (logA A h S W).fail 14, h, ?_, (cut_same hl.on D.stays).2.2.2.2, by omega, hl.cut D.stays⟩
        rw [hgo _ _ hL, if_pos (by simp)]
      · have hlz := hl.left z
        have hwz : Wrt A h W ({ D with left := z } : Dk) := hw
        obtain ⟨b0, b1, _, b3, _, _, b6, _, _⟩ := wrN_same ({ D with left := z } : Dk) 1 1 (headBytes ⟨9, V, posR V⟩) 1
        have hcut := head_cut hlz hwz (V := V) (by omega) (by omega)
        obtain ⟨hs1, hs2⟩ := head_settle hlz hwz (V := V) (by omega) (by omega)
        have hw1 : D.write 1 9 1 (headBytes ⟨9, V, posR V⟩) = (0, ({ D with left := z } : Dk).wrN 1 1 (headBytes ⟨9, V, posR V⟩) 1) := by rw [hwr, q1, q2]; rfl
        rw [hw1] at hlh
        have hcl : ∀ z2 : Int, Lo A V W W (({ (({ D with left := z } : Dk).wrN 1 1 (headBytes ⟨9, V, posR V⟩) 1) with left := z2 } : Dk).settle 1) := fun z2 => hs1.left z2
        have hcw : ∀ z2 : Int, Wrt A V W (({ (({ D with left := z } : Dk).wrN 1 1 (headBytes ⟨9, V, posR V⟩) 1) with left := z2 } : Dk).settle 1) := fun z2 => hs2
        generalize ({ D with left := z } : Dk).wrN 1 1 (headBytes ⟨9, V, posR V⟩) 1 = D2 at b0 b1 b3 b6 hcut hcl hcw hlh
        have ho2 : D2.on = true := b1.trans hl.on
        have hlh2 : D.logHead (logA A h S W) V (posR V) = D2.barrier 1 9 := by rw [hlh]; rfl
        rw [barrier1 ho2 ((congrFun b3 1).trans hl.t1)] at hlh2
        rcases goes_cases D2 with ⟨r1, ra, r2⟩ | ⟨r1, z2, r2⟩
        · right
          have hL : D.logHead (logA A h S W) V (posR V) = (14, D2.cut D2.stays) := by rw [hlh2, r1, r2]; rfl
          obtain ⟨h', e1, e2⟩ := hcut D2.stays
          refine ⟨by omega, b6 ▸ ra, D2.cut D2.stays, (logA A h S W).fail 14, h', ?_, (cut_same ho2 D2.stays).2.2.2.2, e1, e2⟩
          rw [hgo _ _ hL, if_pos (by simp)]
        · left
          have hL : D.logHead (logA A h S W) V (posR V) = (0, ({ D2 with left := z2 } : Dk).settle 1) := by rw [hlh2, r1, r2]; rfl
          refine ⟨by omega, _, ?_, hcl z2, hcw z2, b6⟩
          have hmx : max S W = W := by omega
          rw [hgo _ _ hL, if_neg (by simp), hdr, hmx]
          rfl
end
end Go.Proofs.YtmmnjecaedmleaaGreatDoor

/- Plain laws for LogEvery: Add; the log's calls in any order; the end. -/
namespace Go.Proofs.YtmmnjecaedmleaaGreatDoor
open Go.RowKit

section
variable {A : List Img} {h S M W : Nat} {D : Dk}
theorem sumN_ent (A : List Img) (W : Nat) (l : List Nat) : sumN (l.map (entR A W)) = 3 * l.length := by
  induction l with
  | nil => rfl
  | cons a l ih => rw [List.map_cons, sumN, ih, List.length_cons]; show 3 + _ = _; omega
theorem logA_used : (logA A h S W).used = 3 * (A.length + 1 - h) := by
  show sumN ((List.range' h (A.length + 1 - h)).map (entR A W)) = _
  rw [sumN_ent, List.length_range']
theorem entR_app {n : Nat} (n1 : 1 ≤ n) (n2 : n ≤ A.length) (x : Img) : entR (A ++ [x]) W n = entR A W n := by
  unfold entR
  rw [List.getD_eq_getElem?_getD, List.getD_eq_getElem?_getD, List.getElem?_append_left (by omega)]
theorem logA_added (h1 : 1 ≤ h) (hN : h ≤ A.length + 1) (hW : W ≤ A.length) (x : Img) : (logA A h S W).added [x] = logA (A ++ [x]) h S W := by
  obtain ⟨c, hc⟩ : ∃ c, A.length + 1 - h = c := ⟨_, rfl⟩
  have hlive : (List.range' h ((A ++ [x]).length + 1 - h)).map (entR (A ++ [x]) W) = (List.range' h (A.length + 1 - h)).map (entR A W) ++ [(logA A h S W).ent [x]] := by
    rw [show (A ++ [x]).length + 1 - h = c + 1 by rw [List.length_append, List.length_singleton]; omega, hc, List.range'_1_concat, List.map_append]
    congr 1
    · refine List.map_congr_left (fun n hn => ?_)
      obtain ⟨i, hi, rfl⟩ := List.mem_range'.1 hn
      exact entR_app (by omega) (by omega) x
    · rw [List.map_cons, List.map_nil]
      congr 1
      unfold entR Lg.ent
      rw [if_neg (by omega), show decide (h + c ≤ W) = false by simp; omega]
      have hg : (A ++ [x]).getD (h + c - 1) noImg = x := by
        rw [List.getD_eq_getElem?_getD, show h + c - 1 = A.length by omega, List.getElem?_append_right (Nat.le_refl _), Nat.sub_self]
        rfl
      rw [hg, show h + c = A.length + 1 by omega, show secs [x].length = 3 from secs1]
      rfl
  unfold Lg.added
  show ({ logA A h S W with live := (List.range' h (A.length + 1 - h)).map (entR A W) ++ [(logA A h S W).ent [x]], at_ := (3 * A.length % 7 + secs [x].length) % 7, next := A.length + 1 + 1 } : Lg) = _
  rw [← hlive, show secs [x].length = 3 from secs1]
  unfold logA
  rw [show 3 * (A ++ [x]).length % 7 = (3 * A.length % 7 + 3) % 7 by rw [List.length_append, List.length_singleton]; omega, show (A ++ [x]).length = A.length + 1 by rw [List.length_append, List.length_singleton]]
theorem log_add (h1 : 1 ≤ h) (hN : h ≤ A.length + 1) (hW : W ≤ A.length) (l : List Img) :
    (∃ n c, c ≠ 0 ∧ (logA A h S W).add 1 l = (n, c, logA A h S W)) ∨ ∃ x n, l = [x] ∧ x.right = true ∧ A.length ≤ h ∧ (logA A h S W).add 1 l = (n, 0, logA (A ++ [x]) h S W) := by
  unfold Lg.add
  rw [if_neg (by show ¬ (false = true); decide)]
  by_cases hw : wrongOf (logA A h S W).epoch (logA A h S W).next l = 0
  · rw [if_neg (by simpa using hw)]
    obtain ⟨_, _, w2, _, w4⟩ := wrong_zero hw
    by_cases hl : 1 < l.length
    · rw [if_pos hl]
      exact .inl ⟨_, _, by simp, rfl⟩
    · rw [if_neg hl]
      match l, w2, hl, w4 with
      | [x], _, _, w4 =>
        by_cases hu : A.length ≤ h
        · right
          refine ⟨x, (logA A h S W).next, rfl, w4 x (by simp), hu, ?_⟩
          rw [if_neg, logA_added h1 hN hW]
          rw [logA_used, show secs [x].length = 3 from secs1]
          show ¬ decide (3 + 3 * (A.length + 1 - h) ≤ 8 - 1) = false
          simp
          omega
        · left
          refine ⟨0, 10, by simp, ?_⟩
          rw [if_pos]
          rw [logA_used, show secs [x].length = 3 from secs1]
          show decide (3 + 3 * (A.length + 1 - h) ≤ 8 - 1) = false
          simp
          omega
      | [], w2, _, _ => simp at w2
      | a :: b :: l, _, hl, _ => simp at hl
  · rw [if_pos (by simpa using hw)]
    exact .inl ⟨_, _, hw, rfl⟩
theorem Lo.app (l : Lo A h S M D) (x : Img) (hN : A.length ≤ h) : Lo (A ++ [x]) h S M D := by
  have h1 := l.h1
  have hm := l.SM
  have hn := l.MN
  refine ⟨l.on, l.size, l.t1, l.last, l.szd, l.coh, l.head, fun q a b => (l.secs q a b).app hn x, l.rest, fun y hy => ?_, fun n n0 n1 p hp => ?_, l.h1, l.hS, l.SM, ?_, ?_⟩
  · obtain ⟨n, p, a, b, c, d, e⟩ := l.ws y hy
    exact ⟨n, p, a, b, c, d, by rw [e, rsec_app (by omega) (by omega)]⟩
  · rw [l.kept n n0 n1 p hp, rsec_app (by omega) (by omega)]
  · rw [List.length_append, List.length_singleton]; omega
  · rw [List.length_append, List.length_singleton]; omega
theorem Wrt.app (w : Wrt A h W D) (h1 : 1 ≤ h) (hW : W ≤ A.length) (x : Img) : Wrt (A ++ [x]) h W D := fun n n0 n1 p hp => by
  rw [w n n0 n1 p hp, rsec_app (by omega) (by omega)]
theorem Lo.arm (l : Lo A h S M D) (n : Int) (k : List Int) : Lo A h S M (D.arm n k) :=
  ⟨l.on, l.size, l.t1, l.last, ⟨l.szd.now, l.szd.lasts, l.szd.waits⟩, ⟨l.coh.node, l.coh.sorted, l.coh.above, l.coh.low, l.coh.lowL, l.coh.pos, l.coh.now⟩, l.head, l.secs, l.rest, l.ws, l.kept, l.h1, l.hS, l.SM, l.MN, l.Nh⟩
theorem Gone.re {D' : Dk} (g : Gone A h S M D) (a : D'.sectors = D.sectors) (b : D'.table = D.table) (c : D'.last = D.last) (d : D'.seq = D.seq) (e : D'.now = D.now) (f : D'.lasts = D.lasts) (k : D'.waits = D.waits) : Gone A h S M D' := by
  have hs : ∀ q, D'.sec q = D.sec q := fun q => by unfold Dk.sec; rw [e]
  refine ⟨a.trans g.size, (congrFun b 1).trans g.t1, c.trans g.last, ⟨?_, ?_, ?_⟩, k.trans g.dry, fun n => (g.coh n).of d e f k, (hs 1).trans g.head, fun q a b => by rw [hs]; exact g.secs q a b, fun q a => by rw [hs]; exact g.rest q a, fun n a b p hp => by rw [hs]; exact g.kept n a b p hp, g.h1, g.hS, g.SM, g.MN, g.Nh⟩
  · intro i x hx
    rw [e] at hx
    exact g.szd.now i x hx
  · intro i x hx
    rw [f] at hx
    exact g.szd.lasts i x hx
  · intro x hx
    rw [k] at hx
    exact g.szd.waits x hx
theorem logA_good (hN : A.length ≤ 1000) (h1 : 1 ≤ h) (_ : h ≤ A.length + 1) : (logA A h S W).Good := by
  refine ⟨sh0_ok, by show (0 : Int) ≤ 1; omega, by show (1 : Int) ≤ 1000000; omega, by rw [logA_len]; omega, fun x hx => ?_⟩
  obtain ⟨n, _, rfl⟩ := List.mem_map.1 (show x ∈ (List.range' h (A.length + 1 - h)).map (entR A W) from hx)
  refine ⟨by show 3 ≤ 1000; omega, by show posR n ≤ 256; unfold posR; omega, fun hw => ?_⟩
  unfold entR at hw ⊢
  simp only [decide_eq_false_iff_not] at hw
  simp only
  rw [if_neg hw, rec1_len]
theorem logA_fit {N : Nat} (hA : A.length ≤ 1000) (hN : N ≤ 1000) : (logA A h S W).FitN N := by
  refine ⟨sh0_ok, by show A.length + 1 + N ≤ _; omega, by show 3 * A.length % 7 ≤ 256; omega, by rw [logA_len]; omega, fun x hx => ?_⟩
  obtain ⟨n, _, rfl⟩ := List.mem_map.1 (show x ∈ (List.range' h (A.length + 1 - h)).map (entR A W) from hx)
  show 3 ≤ 1000
  omega
end
/-- A log and its disk: the images that were taken; below f they are free, up to s they last; with power, or the power has gone. -/
def Ev (A : List Img) (f s : Nat) (D : Dk) (L : Lg) : Prop :=
  (∃ W, L = logA A f s W ∧ Lo A f s W D ∧ Wrt A f W D) ∨ (D.on = false ∧ ∃ h M, h ≤ f ∧ Gone A h s M D)
section
variable {A : List Img} {f s : Nat} {D : Dk} {L : Lg}
theorem Ev.lo (e : Ev A f s D L) (ho : D.on = true) : ∃ W, L = logA A f s W ∧ Lo A f s W D ∧ Wrt A f W D := by
  rcases e with e | ⟨e, _⟩
  · exact e
  · rw [ho] at e
    exact absurd e (by decide)
theorem Ev.add (e : Ev A f s D L) (ho : D.on = true) (l : List Img) (hv : ∀ x ∈ l, x.version < 18446744073709551616) (hF : Fines A) :
    (∃ n c, c ≠ 0 ∧ L.add 1 l = (n, c, L)) ∨ ∃ x n L', l = [x] ∧ Fines (A ++ [x]) ∧ L.add 1 l = (n, 0, L') ∧ Ev (A ++ [x]) f s D L' := by
  obtain ⟨W, rfl, hl, hw⟩ := e.lo ho
  have h1 := hl.h1
  have h2 := hl.hS
  have h3 := hl.SM
  have h4 := hl.MN
  rcases log_add (S := s) (W := W) h1 (by omega) h4 l with ⟨n, c, hc, e⟩ | ⟨x, n, rfl, hx, hN, e⟩
  · exact .inl ⟨n, c, hc, e⟩
  · refine .inr ⟨x, n, _, rfl, fun y hy => ?_, e, .inl ⟨W, rfl, hl.app x hN, hw.app h1 h4 x⟩⟩
    rcases List.mem_append.1 hy with hy | hy
    · exact hF y hy
    · rw [List.mem_singleton.1 hy]
      exact ⟨hx, hv x (by simp)⟩
theorem Ev.write (e : Ev A f s D L) (ho : D.on = true) : Ev A f s (logWrite D L).2.2.1 (logWrite D L).2.2.2 ∧ ((logWrite D L).2.2.1.on = true → (logWrite D L).2.2.2.synced = s) := by
  obtain ⟨W, rfl, hl, hw⟩ := e.lo ho
  rcases log_write hl hw with ⟨n', D', e1, l1, w1, _⟩ | ⟨_, D1, keep, L', M, e1, l1⟩
  · rw [e1]
    exact ⟨.inl ⟨_, rfl, l1, w1⟩, fun _ => rfl⟩
  · rw [e1]
    have hoff := (cut_same l1.on keep).2.2.2.2
    exact ⟨.inr ⟨hoff, f, M, Nat.le_refl _, l1.cut keep⟩, fun h => by rw [show (D1.cut keep).on = true from h] at hoff; exact absurd hoff (by decide)⟩
theorem Ev.sync (e : Ev A f s D L) (ho : D.on = true) :
    (((logSync D L).2.1.on = true ∧ Ev A f (logSync D L).2.2.synced (logSync D L).2.1 (logSync D L).2.2) ∨ ((logSync D L).2.1.on = false ∧ Ev A f s (logSync D L).2.1 (logSync D L).2.2)) := by
  obtain ⟨W, rfl, hl, hw⟩ := e.lo ho
  rcases log_sync hl hw with ⟨D', e1, l1, w1, _⟩ | ⟨_, D1, keep, L', M, e1, l1⟩
  · rw [e1]
    exact .inl ⟨l1.on, .inl ⟨_, rfl, l1, w1⟩⟩
  · rw [e1]
    have hoff := (cut_same l1.on keep).2.2.2.2
    exact .inr ⟨hoff, .inr ⟨hoff, f, M, Nat.le_refl _, l1.cut keep⟩⟩
/-- Free: the number below which all is free, as the law counts it. -/
theorem Ev.free (e : Ev A f s D L) (ho : D.on = true) (V : Nat) :
    ((logFree D L V).2.1.on = true ∧ Ev A (if (logFree D L V).1 = 0 then max f V else f) (logFree D L V).2.2.synced (logFree D L V).2.1 (logFree D L V).2.2 ∧ (logFree D L V).1 ≠ 14) ∨
    ((logFree D L V).2.1.on = false ∧ (logFree D L V).1 = 14 ∧ Ev A (max f V) s (logFree D L V).2.1 (logFree D L V).2.2) := by
  obtain ⟨W, rfl, hl, hw⟩ := e.lo ho
  rcases log_free hl hw V with ⟨h1, e1⟩ | ⟨h1, e1⟩ | ⟨h1, D', e1, l1, w1, _⟩ | ⟨h1, _, D', L', h', e1, o1, q1, g1⟩
  · left
    rw [e1]
    refine ⟨ho, ?_, by simp⟩
    rw [if_neg (by simp)]
    exact .inl ⟨W, rfl, hl, hw⟩
  · left
    rw [e1]
    refine ⟨ho, ?_, by simp⟩
    rw [if_pos rfl, show max f V = f by omega]
    exact .inl ⟨W, rfl, hl, hw⟩
  · left
    rw [e1]
    refine ⟨l1.on, ?_, by simp⟩
    rw [if_pos rfl, show max f V = V by omega]
    exact .inl ⟨W, rfl, l1, w1⟩
  · right
    rw [e1]
    exact ⟨o1, rfl, .inr ⟨o1, h', W, by omega, g1⟩⟩
theorem Ev.arm (e : Ev A f s D L) (n : Int) (k : List Int) : Ev A f s (D.arm n k) L := by
  rcases e with ⟨W, h1, h2, h3⟩ | ⟨h1, h, M, h2, h3⟩
  · exact .inl ⟨W, h1, h2.arm n k, h3⟩
  · exact .inr ⟨h1, h, M, h2, h3.re rfl rfl rfl rfl rfl rfl rfl⟩
/-- The end: the power goes (again), and comes back. -/
theorem Ev.fin (e : Ev A f s D L) (keep : List Int) : ∃ h M, h ≤ f ∧ Gone A h s M ({ D.cut keep with on := true } : Dk) := by
  rcases e with ⟨W, h1, h2, h3⟩ | ⟨h1, h, M, h2, h3⟩
  · exact ⟨f, W, Nat.le_refl _, (h2.cut keep).re rfl rfl rfl rfl rfl rfl rfl⟩
  · have hc : D.cut keep = D.arm (-1) [] := by unfold Dk.cut; rw [if_neg (by rw [h1]; decide)]
    refine ⟨h, M, h2, h3.re ?_ ?_ ?_ ?_ ?_ ?_ ?_⟩ <;> rw [hc] <;> rfl
end
theorem Ev.start {D1 : Dk} {N : Nat} (hu : Up D1 9 0 N) (hl : D1.last = 9) (hh : D1.sec 1 = headBytes ⟨9, 1, 0⟩) (hz : ∀ k : Int, 2 ≤ k → D1.sec k = zs 64) (hr : Rest D1) : Ev [] 1 0 D1 (Lg.new sh0 1 9 1) := by
  have hlas : ∀ k, D1.las k = D1.sec k := fun k => by
    rcases (hr.coh 1).maybeNow k with e | ⟨x, hx, _⟩
    · exact e.symm
    · rw [hr.dry] at hx; simp at hx
  refine .inl ⟨0, rfl, ⟨hu.on, hu.size, hu.t1, hl, hu.szd, hr.coh 1, ?_, fun q q0 q1 => .inl (by rw [hlas]; exact hz q q0), fun q q0 => by rw [hlas]; exact hz q (by omega), fun x hx => by rw [hr.dry] at hx; simp at hx, fun n n0 n1 => by omega, Nat.le_refl _, Nat.le_refl _, Nat.le_refl _, Nat.le_refl _, by simp⟩, fun n n0 n1 => by omega⟩
  rw [hlas]
  exact hh
end Go.Proofs.YtmmnjecaedmleaaGreatDoor
