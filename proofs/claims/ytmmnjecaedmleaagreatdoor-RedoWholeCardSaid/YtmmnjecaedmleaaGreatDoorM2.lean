import Derived.Test.YtmmnjecaedmleaaGreatDoorM1
import Derived.Test.YtmmnjecaedmleaaGreatDoorProg
import Derived.WalkLawsBesides
import Derived.WalkSpells
import Derived.Deep.RegionHeld3
import Derived.Deep.AppendLies
import Derived.Maps.AppendAt
import Derived.Lib.BufferRead
import Derived.Test.YtmmnjecaedmleaaGreatDoorShelf

/- wire's Writer and Reader, called with numbers that fit: contracts. -/
namespace Go.Proofs.YtmmnjecaedmleaaGreatDoor
open Go.RowKit

/-- A number in so many bytes, the lowest first. -/
def le : Nat → Nat → Bytes
  | 0, _ => []
  | n + 1, v => UInt8.ofNat v :: le n (v / 256)

def byteV (c : UInt8) : Value := .int .u8 c.toNat

theorem wrongNum_ok (w : World) (v n : Int) (hn : n = 1 ∨ n = 4 ∨ n = 8) (h0 : 0 ≤ v) (h1 : n = 1 → v < 256) (h4 : n = 4 → v < 4294967296) :
    Calls Tryz.prog 302 #[.int .u64 v, .int .i64 n] w fun e w' => e = .returned (.int .i64 0) ∧ w = w' := by
  rcases hn with rfl | rfl | rfl
  · have := h1 rfl
    clear h1 h4
    go_enter Tryz.func302, Tryz.ntmps302
    go_wp2
    go_ret; exact ⟨rfl, rfl⟩
  · have := h4 rfl
    clear h1 h4
    go_enter Tryz.func302, Tryz.ntmps302
    go_wp2
    go_ret; exact ⟨rfl, rfl⟩
  · clear h1 h4
    go_enter Tryz.func302, Tryz.ntmps302
    go_wp2
    go_ret; exact ⟨rfl, rfl⟩

/-- A Writer of the call's own: what it holds, no error. -/
def WriterAt (base : Nat) (w : World) (b : Nat) (l : Bytes) : Prop :=
  base ≤ b ∧ ∃ sv, w.heap[b]? = some (.cells #[sv, .int .i64 0] 346 (0, 0)) ∧ w.ownsRow base 5 1 sv l.length (l.map byteV) ∧ sv.ownBlock ≠ some b

theorem fails_ok (w : World) (b : Nat) (sv : Value) (T : TypeId) (h : w.heap[b]? = some (.cells #[sv, .int .i64 0] T (0, 0))) :
    Calls Tryz.prog 305 #[.pointer (some ⟨b, 0, none⟩), .int .i64 0] w fun e w' => e = .returned (.bool false) ∧ w.setCell ⟨b, 1, none⟩ (.int .i64 0) = w' := by
  have c1 := cell_of_blk h 1 rfl
  have f1 := free_of_blk h 1
  clear h
  go_enter Tryz.func305, Tryz.ntmps305
  go_wp2
  go_ret; exact ⟨rfl, rfl⟩

theorem byteV_at (w : World) (g : Nat) (l : Bytes) (h : ∀ j u, (l.map byteV)[j]? = some u → w.cell? ((⟨g, 0, none⟩ : Addr).add j) = some u) :
    ∀ j (hj : j < l.length), w.cell? ((⟨g, 0, none⟩ : Addr).add j) = some (.int .u8 (l[j].toNat : Int)) := fun j hj => h j _ (by simp [byteV, hj])

theorem conv_row {base : Nat} {w : World} {sv : Value} {l : Bytes} (h : w.ownsRow base 5 1 sv l.length (l.map byteV)) :
    (convert 135 9 sv).run Tryz.prog w = .ok (S l) w := by
  have hc := fun g (hg : sv.ownBlock = some g) => h.cells hg
  rcases h.2 with ⟨rfl, hn⟩ | ⟨g, cap, cur, rfl, _⟩
  · have : l = [] := List.eq_nil_of_length_eq_zero hn
    subst this
    exact Lib.run_convert_nil_bytes w _ _ 5 0 (by kernel_rfl) (by kernel_rfl) (by kernel_rfl)
  · exact run_convert_bytes_back w _ _ 5 ⟨g, 0, none⟩ cap l (by kernel_rfl) (by kernel_rfl) (by kernel_rfl) (byteV_at w g l (hc g rfl))

theorem bytes_ok (base : Nat) (w : World) (b : Nat) (l : Bytes) (h : WriterAt base w b l) :
    Calls Tryz.prog 274 #[.pointer (some ⟨b, 0, none⟩)] w fun e w' => e = .returned (.tuple #[S l, .int .i64 0]) ∧ w = w' := by
  obtain ⟨hb, sv, hblk, hown, hne⟩ := h
  have c0 := cell_of_blk hblk 0 rfl
  have c1 := cell_of_blk hblk 1 rfl
  have hcv := conv_row hown
  clear hblk hown hne
  go_enter Tryz.func274, Tryz.ntmps274
  go_wp2
  go_ret2
  exact ⟨rfl, rfl⟩

@[simp, go_sem] theorem le_length (n v : Nat) : (le n v).length = n := by
  induction n generalizing v with
  | zero => rfl
  | succ n ih => simp [le, ih]
theorem le_snoc (n v : Nat) : le (n + 1) v = le n v ++ [UInt8.ofNat (v / 256 ^ n)] := by
  induction n generalizing v with
  | zero => simp [le]
  | succ n ih =>
    rw [le, ih]
    simp [le, Nat.div_div_eq_div_mul, Nat.pow_succ, Nat.mul_comm]

theorem info_u8 : (Tryz.prog.info? 5).map (fun i => (i.zero, i.size, i.bytes)) = some (some (.int .u8 0), 1, 1) := by kernel_rfl
theorem und_bytes : Tryz.prog.underlying 135 = some (.slice 5) := by kernel_rfl

theorem el_u8 : Elem Tryz.prog 135 5 (.int .u8 0) 1 1 := .mk' (by kernel_rfl) (by kernel_rfl) rfl (by omega)
theorem Below.fact {B : Nat} {w w' : World} (h : Below B w w') {b : Nat} {x : Option Obj} (hb : b < B) (hx : w.heap[b]? = x) : w'.heap[b]? = x := by rw [h.block b hb]; exact hx

set_option maxHeartbeats 800000 in
set_option maxRecDepth 100000 in
theorem num_ok (base : Nat) (w : World) (b : Nat) (l : Bytes) (v n : Nat) (h : WriterAt base w b l) (hl : l.length ≤ 1000000) (hn : n = 1 ∨ n = 4 ∨ n = 8) (h1 : n = 1 → v < 256) (h4 : n = 4 → v < 4294967296) :
    Calls Tryz.prog 273 #[.pointer (some ⟨b, 0, none⟩), .int .u64 v, .int .i64 n] w fun e w' => e = .returned (.pointer (some ⟨b, 0, none⟩)) ∧ WriterAt base w' b (l ++ le n v) ∧ Below base w w' := by
  obtain ⟨hb, sv, hblk, hown, hne⟩ := h
  have hn8 : n ≤ 8 := by omega
  have HN := Lib.hid hn
  have HB := Lib.hid hblk
  have HO := Lib.hid hown
  have HE := Lib.hid hne
  have H1 := Lib.hid h1
  have H4 := Lib.hid h4
  clear hn hblk hown hne h1 h4
  go_enter Tryz.func273, Tryz.ntmps273
  go_wp2_with fail
  refine (wrongNum_ok _ _ _ (by have := HN.out; omega) (by omega) (fun e => by have := H1.out (by omega); omega) (fun e => by have := H4.out (by omega); omega)).mono ?_
  rintro e w1 ⟨rfl, rfl⟩
  go_wp2_with fail
  refine (fails_ok _ _ _ _ HB.out).mono ?_
  rintro e w1 ⟨rfl, hw1⟩
  have hb1 : w1.heap[b]? = some (.cells #[sv, .int .i64 0] 346 (0, 0)) := by rw [← hw1]; exact blk_set HB.out 1 _
  have ho1 : w1.ownsRow base 5 1 sv l.length (l.map byteV) := by rw [← hw1]; exact row_set_ne HO.out _ HE.out
  have hbl1 : Below base w w1 := by rw [← hw1]; exact (Below.refl _ _).setCell hb _
  have H0 : Hid (WriterAt base w1 b (l ++ le 0 v)) := Lib.hid ⟨hb, sv, hb1, by simpa [le] using ho1, HE.out⟩
  have HL := Lib.hid hbl1
  clear hw1 hb1 ho1 hbl1 HE
  go_wp2_with fail
  go_loopw [1, 18] (fun x i wr => ∃ k y : Nat, k ≤ n ∧ i = .int .i64 k ∧ x = .int .u64 y ∧ Hid (y = v / 256 ^ k) ∧ Hid (WriterAt base wr b (l ++ le k v)) ∧ Hid (Below base w wr)) (fun x i _ => n - (intOf i).toNat)
  case atStart => exact ⟨0, v, Nat.zero_le _, rfl, rfl, Lib.hid (by simp), H0, HL⟩
  case round =>
    obtain ⟨k, y, hk, rfl, rfl, Hy, HW, HLr⟩ := hrel
    clear H0 HL
    by_cases hlt : k < n
    · obtain ⟨_, sv', hblk, hown, hne⟩ := HW.out
      have c0 := cell_of_blk hblk 0 rfl
      have hbw := blk_lt hblk
      have HB := Lib.hid hblk
      have HO := Lib.hid hown
      have HE := Lib.hid hne
      clear hblk hown hne HW
      have hlen : (l ++ le k v).length ≤ 1000008 := by rw [List.length_append, le_length]; omega
      go_wp2_with (at_builtin; refine Halt1.hold ?_)
      refine Halt1.go ?_
      refine wpL_app el_u8 (.tmp 24) (.tmp 27) rfl rfl base sv' _ _ rfl (HO.out.alloc _) wr.heap.size 1 1 [.int .u8 (y % 256)] _ _ rfl (blk_new _ _) rfl (by simp [Value.oneCell']) (by omega) (by omega) (by omega) (by simp; omega) ?_
      intro g cap w2 hown2 hgrow2 hat2 hlt2
      have hL2 : Below base w w2 := (HLr.out.alloc (by omega) _).grown hgrow2 (by simp; omega) (fun k hk => (HO.out.lt k hk).1)
      have hB2 : w2.heap[b]? = some (.cells #[sv', .int .i64 0] 346 (0, 0)) := by
        rw [hgrow2.block b (by simp; omega) (fun e => HE.out e.symm)]
        exact blk_alloc _ HB.out
      have hgb : g ≠ b := by
        rcases hat2 with h | h
        · intro e; subst e; exact HE.out h
        · simp at h; omega
      have d0 := free_of_blk hB2 0
      have d1 := cell_of_blk hB2 0 rfl
      have HB2 := Lib.hid hB2
      have HO2 := Lib.hid hown2
      have HL2 := Lib.hid hL2
      have HG := Lib.hid hgb
      have HA := Lib.hid hat2
      clear hB2 hown2 hL2 hgrow2 hgb hat2 HLr HB HO c0
      go_wp2_with fail
      go_roundw
      case rel =>
        refine ⟨k + 1, y / 256, by omega, by go_num, by go_num, Lib.hid (by rw [Hy.out, Nat.div_div_eq_div_mul, Nat.pow_succ]), Lib.hid ⟨hb, _, blk_set HB2.out 0 _, ?_, ?_⟩, Lib.hid (HL2.out.setCell hb _)⟩
        · have := row_set_ne (b := b) (o := 0) HO2.out (.slice (some ⟨g, 0, none⟩) ((l ++ le k v).length + 1) cap) (by simp [Value.ownBlock]; exact HG.out)
          rw [le_snoc, ← List.append_assoc]
          simpa [byteV, Hy.out, Nat.add_assoc] using this
        · simp [Value.ownBlock]; exact HG.out
      case measure => simp [intOf]; omega
    · go_wp2
      go_ret
      have e : k = n := by omega
      subst e
      exact ⟨rfl, HW.out, HLr.out⟩

theorem num8 (base : Nat) (w : World) (b : Nat) (l : Bytes) (v : Nat) (h : WriterAt base w b l) (hl : l.length ≤ 1000000) :
    Calls Tryz.prog 273 #[.pointer (some ⟨b, 0, none⟩), .int .u64 v, .int .i64 8] w fun e w' => e = .returned (.pointer (some ⟨b, 0, none⟩)) ∧ WriterAt base w' b (l ++ le 8 v) ∧ Below base w w' :=
  num_ok base w b l v 8 h hl (by decide) (by omega) (by omega)
theorem num4 (base : Nat) (w : World) (b : Nat) (l : Bytes) (v : Nat) (h : WriterAt base w b l) (hl : l.length ≤ 1000000) (hv : v < 4294967296) :
    Calls Tryz.prog 273 #[.pointer (some ⟨b, 0, none⟩), .int .u64 v, .int .i64 4] w fun e w' => e = .returned (.pointer (some ⟨b, 0, none⟩)) ∧ WriterAt base w' b (l ++ le 4 v) ∧ Below base w w' :=
  num_ok base w b l v 4 h hl (by decide) (by omega) (fun _ => hv)
theorem num1 (base : Nat) (w : World) (b : Nat) (l : Bytes) (v : Nat) (h : WriterAt base w b l) (hl : l.length ≤ 1000000) (hv : v < 256) :
    Calls Tryz.prog 273 #[.pointer (some ⟨b, 0, none⟩), .int .u64 v, .int .i64 1] w fun e w' => e = .returned (.pointer (some ⟨b, 0, none⟩)) ∧ WriterAt base w' b (l ++ le 1 v) ∧ Below base w w' :=
  num_ok base w b l v 1 h hl (by decide) (fun _ => hv) (by omega)
end Go.Proofs.YtmmnjecaedmleaaGreatDoor

/- sum: check sums and stamps: contracts. -/
namespace Go.Proofs.YtmmnjecaedmleaaGreatDoor
open Go.RowKit

/-- One round of eight of the check sum; so many rounds; a byte; a text. -/
def crcBit (y : Int) : Int := if (bits .and .u32 y 1 == 1) = true then bits .xor .u32 (y / 2) 3988292384 else y / 2
def crcN : Nat → Int → Int
  | 0, y => y
  | n + 1, y => crcBit (crcN n y)
def crcByte (y : Int) (c : UInt8) : Int := crcN 8 (bits .xor .u32 y c.toNat)
def crcL (l : Bytes) : Int := l.foldl crcByte 4294967295

def crcOf (l : Bytes) : Int := bits .xor .u32 IntKind.u32.max (crcL l)
theorem crcL_take (l : Bytes) (k : Nat) (h : k < l.length) : crcL (l.take (k + 1)) = crcByte (crcL (l.take k)) (l[k]) := by
  unfold crcL
  rw [List.take_succ_eq_append_getElem h, List.foldl_append]; rfl

theorem byte_mod (c : UInt8) : ((c.toNat : Int) % 4294967296) = c.toNat := by have := c.toNat_lt; omega
theorem getElem_str (l : Bytes) (k : Nat) (h : k < l.length) : (⟨l.toArray⟩ : ByteArray)[k]? = some l[k] := by
  show (if h : k < l.length then some _ else none) = _
  rw [dif_pos h]; rfl

theorem Of_one (w : World) (b : Nat) (l : Bytes) (hc : w.cell? ⟨b, 0, none⟩ = some (S l)) (hl : l.length ≤ 1000000) :
    Calls Tryz.prog 276 #[.slice (some ⟨b, 0, none⟩) 1 1] w fun e w' => e = .returned (.int .u32 (crcOf l)) ∧ w = w' := by
  have HC := Lib.hid hc
  clear hc
  go_enter Tryz.func276, Tryz.ntmps276
  go_wp2_with fail
  go_loop [3, 10] (fun x i => ∃ k : Nat, ∃ y : Int, k ≤ 1 ∧ i = .int .i64 k ∧ x = .int .u32 y ∧ Hid (y = if k = 0 then 4294967295 else crcL l)) (fun x i => 1 - (intOf i).toNat)
  case atStart => exact ⟨0, _, by omega, rfl, rfl, Lib.hid rfl⟩
  case round =>
    obtain ⟨k, y, hk, rfl, rfl, Hy⟩ := hrel
    by_cases hk0 : k < 1
    · obtain rfl : k = 0 := by omega
      have hc := HC.out
      have hy := Hy.out
      simp only [if_true] at hy
      subst hy
      clear Hy
      go_wp2_with fail
      go_loop [3, 16] (fun x i => ∃ k : Nat, ∃ y : Int, k ≤ l.length ∧ i = .int .i64 k ∧ x = .int .u32 y ∧ Hid (y = crcL (l.take k))) (fun x i => l.length - (intOf i).toNat)
      case atStart => exact ⟨0, _, by omega, rfl, rfl, Lib.hid (by simp [crcL])⟩
      case round =>
        obtain ⟨k, y, hk, rfl, rfl, Hy⟩ := hrel
        by_cases hk0 : k < l.length
        · have hk1 : 0 ≤ (k : Int) := by omega
          go_wp2_with fail
          go_loop [3, 25] (fun x i => ∃ m : Nat, ∃ z : Int, m ≤ 8 ∧ i = .int .i64 m ∧ x = .int .u32 z ∧ Hid (z = crcN m (bits .xor .u32 y (l[k]'hk0).toNat))) (fun x i => 8 - (intOf i).toNat)
          case atStart => exact ⟨0, _, by omega, rfl, rfl, Lib.hid (by rw [byte_mod]; rfl)⟩
          case round =>
            obtain ⟨j, z, hj, rfl, rfl, Hz⟩ := hrel
            by_cases hj0 : j < 8
            · go_wp2_with fail
              all_goals
                refine ⟨⟨j + 1, _, by omega, by go_num, rfl, Lib.hid ?_⟩, by simp [intOf]; omega⟩
                rw [crcN, ← Hz.out, crcBit]
                first | rw [if_pos ‹_›] | rw [if_neg (by simp only [*]; decide)]
            · obtain rfl : j = 8 := by omega
              go_wp2_with fail
              refine ⟨⟨k + 1, _, by omega, by go_num, rfl, Lib.hid ?_⟩, by simp [intOf]; omega⟩
              rw [crcL_take l k hk0, ← Hy.out, crcByte, ← Hz.out]
        · obtain rfl : k = l.length := by omega
          go_wp2_with fail
          refine ⟨⟨1, _, by omega, by go_num, rfl, Lib.hid ?_⟩, by simp [intOf]⟩
          rw [if_neg (by omega), Hy.out, List.take_length]
    · obtain rfl : k = 1 := by omega
      go_wp2_with fail
      go_ret
      refine ⟨?_, rfl⟩
      have := Hy.out
      rw [if_neg (by omega)] at this
      rw [crcOf, ← this]
      rfl

theorem u32_bits (a b : Int) : 0 ≤ bits .xor .u32 a b ∧ bits .xor .u32 a b < 4294967296 := by
  unfold bits
  simp only [IntKind.wrap, IntKind.signed, IntKind.bits]
  simp
  omega
theorem crcOf_range (l : Bytes) : 0 ≤ crcOf l ∧ crcOf l < 4294967296 := u32_bits _ _

theorem four_ok (w : World) (v : Int) (h0 : 0 ≤ v) (h1 : v < 4294967296) :
    Calls Tryz.prog 275 #[.int .u32 v] w fun e w' => e = .returned (S (le 4 v.toNat)) ∧ Chg No w w' := by
  obtain ⟨n, rfl⟩ := Int.eq_ofNat_of_zero_le h0
  go_enter Tryz.func275, Tryz.ntmps275
  go_wp2_with fail
  refine (num_ok (w.heap.size) _ w.heap.size [] n 4 ⟨Nat.le_refl _, .slice none 0 0, blk_new _ _, World.ownsRow_nil _ _ _ _, by simp [Value.ownBlock]⟩ (by simp) (by simp) (by omega) (by omega)).mono ?_
  rintro e w1 ⟨rfl, hw1, hb1⟩
  go_wp2_with fail
  refine (bytes_ok _ _ _ _ hw1).mono ?_
  rintro e w2 ⟨rfl, rfl⟩
  go_wp2_with fail
  go_ret
  refine ⟨by simp, ((Chg.refl _ _).alloc _).below hb1 (Nat.le_refl _)⟩

/-- Bytes 0. -/
def zs (n : Nat) : Bytes := List.replicate n 0
@[simp, go_sem] theorem zs_length (n : Nat) : (zs n).length = n := by simp [zs]

/-- A text stamped to 64 bytes; is a sector's sum right? -/
def stamp (s : Bytes) : Bytes := (s ++ zs (60 - s.length)) ++ le 4 (crcOf (s ++ zs (60 - s.length))).toNat
def sumOk (b : Bytes) : Bool := (b.drop 60).take 4 == le 4 (crcOf (b.take 60)).toNat
theorem stamp_length (s : Bytes) (h : s.length ≤ 60) : (stamp s).length = 64 := by simp [stamp, le_length, zs_length]; omega
theorem stamp_take (s : Bytes) (h : s.length ≤ 60) : (stamp s).take 60 = s ++ zs (60 - s.length) := by
  rw [stamp, List.take_left']; simp [zs_length]; omega
theorem stamp_ok (s : Bytes) (h : s.length ≤ 60) : sumOk (stamp s) = true := by
  unfold sumOk
  rw [stamp_take s h, stamp, List.drop_left']
  · simp [le_length, List.take_of_length_le]
  · simp [zs_length]; omega

theorem Chg.of_below {w w' : World} (h : Below w.heap.size w w') : Chg No w w' := (Chg.refl No w).below h (Nat.le_refl _)

theorem clone_ok (w : World) (l : Bytes) (hl : l.length ≤ 1000000000) :
    Calls Tryz.prog 87 #[S l] w fun e w' => e = .returned (S l) ∧ Chg No w w' := by
  go_enter Tryz.func87, Tryz.ntmps87
  go_wp2_with fail
  refine (Tryz.stringslite_Clone ⟨l.toArray⟩ _ (by show l.toArray.size ≤ _; simp; omega)).mono ?_
  rintro e w1 ⟨rfl, hb⟩
  have HB := Lib.hid hb
  clear hb
  go_wp2_with fail
  go_ret
  exact ⟨rfl, Chg.of_below HB.out⟩

theorem repeatL_zero : ∀ n : Nat, Lib.repeatL [0] n = zs n
  | 0 => rfl
  | n + 1 => by rw [Lib.repeatL, repeatL_zero n]; simp [zs, List.replicate_succ]

theorem repeat_ok (w : World) (n : Int) (h0 : 0 ≤ n) (h : n ≤ 1000000) :
    Calls Tryz.prog 83 #[S [0], .int .i64 n] w fun e w' => e = .returned (S (zs n.toNat)) ∧ Chg No w w' := by
  obtain ⟨n, rfl⟩ := Int.eq_ofNat_of_zero_le h0
  refine (Tryz.strings_Repeat ⟨#[0]⟩ n w (by omega) (by show 1 * n ≤ _; omega)).mono ?_
  rintro e w1 ⟨rfl, hb⟩
  exact ⟨by rw [show (⟨#[0]⟩ : ByteArray).data.toList = [0] from rfl, repeatL_zero]; rfl, Chg.of_below hb⟩

set_option maxRecDepth 100000 in
theorem Stamp_ok (w : World) (s : Bytes) (hs : s.length ≤ 60) :
    Calls Tryz.prog 200 #[S s, .int .i64 64] w fun e w' => e = .returned (.tuple #[S (stamp s), .int .i64 0]) ∧ Chg No w w' := by
  go_enter Tryz.func200, Tryz.ntmps200
  go_wp2_with fail
  refine (repeat_ok _ _ (by omega) (by omega)).mono ?_
  rintro e w1 ⟨rfl, hc1⟩
  obtain ⟨z, hz⟩ : ∃ z, z = zs (60 - s.length) := ⟨_, rfl⟩
  rw [show ((60 : Int) - (s.length : Int)).toNat = 60 - s.length by omega, ← hz]
  have hzl : z.length ≤ 60 := by rw [hz, zs_length]; omega
  have HZ := Lib.hid hz
  have HC := Lib.hid hc1
  clear hz hc1
  go_wp2_with fail
  refine (Of_one _ _ (s ++ z) (cell_of_blk (blk_new _ _) 0 (by simp)) (by simp; omega)).mono ?_
  rintro e w2 ⟨rfl, rfl⟩
  go_wp2_with fail
  refine (four_ok _ _ (crcOf_range _).1 (crcOf_range _).2).mono ?_
  rintro e w2 ⟨rfl, hc2⟩
  have hl4 : (le 4 (crcOf (s ++ z)).toNat).length ≤ 4 := by rw [le_length]; omega
  obtain ⟨f, hf⟩ : ∃ f, f = le 4 (crcOf (s ++ z)).toNat := ⟨_, rfl⟩
  rw [← hf] at hl4 ⊢
  have HF := Lib.hid hf
  have HC2 := Lib.hid hc2
  clear hf hc2
  go_wp2_with fail
  go_ret2
  refine ⟨?_, (HC.out.alloc _).trans_no HC2.out⟩
  rw [stamp, ← HZ.out, ← HF.out]
  simp

set_option maxRecDepth 100000 in
theorem Read_yes (w : World) (b : Bytes) (hb : b.length = 64) (hk : sumOk b = true) :
    Calls Tryz.prog 213 #[S b] w fun e w' => e = .returned (.tuple #[S (b.take 60), .int .i64 0]) ∧ Chg No w w' := by
  unfold sumOk at hk
  go_enter Tryz.func213, Tryz.ntmps213
  go_wp2_with fail
  have hl : (b.take 60).length ≤ 1000000 := by simp; omega
  go_region_held3 (fun _ => True) (trivial) (first | (go_at_call 276; refine (Of_one _ _ (b.take 60) ?_ hl).mono ?_; (go_simp); rintro e w2 ⟨rfl, rfl⟩) | (go_at_call 275; refine (four_ok _ _ (crcOf_range _).1 (crcOf_range _).2).mono ?_; rintro e w3 ⟨rfl, hc3⟩))
  have HC := Lib.hid hc3
  clear hc3
  go_wp2_with fail
  refine (clone_ok _ _ (by simp; omega)).mono ?_
  rintro e w4 ⟨rfl, hc4⟩
  have HC4 := Lib.hid hc4
  clear hc4
  go_wp2_with fail
  go_ret2
  exact ⟨rfl, (((Chg.refl _ _).alloc _).drew.trans_no HC.out).trans_no HC4.out⟩

set_option maxRecDepth 100000 in
theorem Read_no (w : World) (b : Bytes) (hb : b.length = 64) (hk : sumOk b = false) :
    Calls Tryz.prog 213 #[S b] w fun e w' => e = .returned (.tuple #[S [], .int .i64 6]) ∧ Chg No w w' := by
  unfold sumOk at hk
  go_enter Tryz.func213, Tryz.ntmps213
  go_wp2_with fail
  have hl : (b.take 60).length ≤ 1000000 := by simp; omega
  go_region_held3 (fun _ => True) (trivial) (first | (go_at_call 276; refine (Of_one _ _ (b.take 60) ?_ hl).mono ?_; (go_simp); rintro e w2 ⟨rfl, rfl⟩) | (go_at_call 275; refine (four_ok _ _ (crcOf_range _).1 (crcOf_range _).2).mono ?_; rintro e w3 ⟨rfl, hc3⟩))
  have HC := Lib.hid hc3
  clear hc3
  go_wp2_with fail
  go_ret2
  exact ⟨rfl, (((Chg.refl _ _).alloc _).drew.trans_no HC.out)⟩
end Go.Proofs.YtmmnjecaedmleaaGreatDoor

/- wire's Reader, with bytes enough: contracts. -/
namespace Go.Proofs.YtmmnjecaedmleaaGreatDoor
open Go.RowKit

/-- The number in bytes, the lowest first. -/
def leVal : Bytes → Nat
  | [] => 0
  | c :: l => c.toNat + 256 * leVal l
theorem leVal_lt (l : Bytes) : leVal l < 256 ^ l.length := by
  induction l with
  | nil => simp [leVal]
  | cons c l ih =>
    have := c.toNat_lt
    simp only [leVal, List.length_cons, Nat.pow_succ]
    omega
theorem leVal_snoc (l : Bytes) (c : UInt8) : leVal (l ++ [c]) = leVal l + c.toNat * 256 ^ l.length := by
  induction l with
  | nil => simp [leVal]
  | cons d l ih =>
    simp only [List.cons_append, leVal, ih, List.length_cons, Nat.pow_succ, Nat.mul_add, Nat.add_assoc]
    congr 2
    rw [Nat.mul_left_comm]
    congr 1
    exact Nat.mul_comm _ _
theorem leVal_le (n v : Nat) (h : v < 256 ^ n) : leVal (le n v) = v := by
  induction n generalizing v with
  | zero => simp [le, leVal]; omega
  | succ n ih =>
    rw [le, leVal, ih _ (by rw [Nat.pow_succ] at h; omega)]
    simp
    omega

/-- A Reader: what is left, no error. -/
def ReaderAt (w : World) (b : Nat) (l : Bytes) : Prop := w.heap[b]? = some (.cells #[S l, .int .i64 0] 375 (0, 0))

theorem NewReader_ok (w : World) (l : Bytes) (hl : l.length ≤ 1000000) :
    Calls Tryz.prog 268 #[S l] w fun e w' => ∃ b, e = .returned (.pointer (some ⟨b, 0, none⟩)) ∧ w.heap.size ≤ b ∧ ReaderAt w' b l ∧ Chg No w w' := by
  go_enter Tryz.func268, Tryz.ntmps268
  go_wp2_with fail
  refine (clone_ok _ _ (by omega)).mono ?_
  rintro e w1 ⟨rfl, hc⟩
  have HC := Lib.hid hc
  clear hc
  go_wp2_with fail
  go_ret
  exact ⟨_, rfl, HC.out.size, blk_new _ _, HC.out.alloc _⟩

theorem Err_ok (w : World) (b : Nat) (l : Bytes) (h : ReaderAt w b l) :
    Calls Tryz.prog 322 #[.pointer (some ⟨b, 0, none⟩)] w fun e w' => e = .returned (.int .i64 0) ∧ w = w' := by
  have c1 := cell_of_blk h 1 rfl
  clear h
  go_enter Tryz.func322, Tryz.ntmps322
  go_wp2
  go_ret
  exact ⟨rfl, rfl⟩

theorem take_ok (w : World) (b : Nat) (l : Bytes) (n : Int) (h0 : 0 ≤ n) (hn : n ≤ l.length) (h : ReaderAt w b l) (hl : l.length ≤ 1000000) :
    Calls Tryz.prog 304 #[.pointer (some ⟨b, 0, none⟩), .int .i64 n] w fun e w' => e = .returned (S (l.take n.toNat)) ∧ w.setCell ⟨b, 0, none⟩ (S (l.drop n.toNat)) = w' := by
  have c0 := cell_of_blk h 0 rfl
  have f0 := free_of_blk h 0
  have H := Lib.hid h
  clear h
  go_enter Tryz.func304, Tryz.ntmps304
  go_wp2_with fail
  refine (Err_ok _ _ _ H.out).mono ?_
  rintro e w1 ⟨rfl, rfl⟩
  go_wp2_with fail
  go_ret
  exact ⟨rfl, rfl⟩

theorem wrap_u64 (n : Nat) (h : n < 18446744073709551616) : IntKind.u64.wrap (n : Int) = n := by
  unfold IntKind.wrap; simp [IntKind.signed, IntKind.bits]; omega
theorem or_step (v c k : Nat) (hk : k < 8) (hv : v < 256 ^ k) (hc : c < 256) :
    bits .or .u64 v (IntKind.u64.wrap (IntKind.u64.wrap (c : Int) * 2 ^ (8 * k))) = ((v + c * 256 ^ k : Nat) : Int) := by
  have hp : 256 ^ k = 2 ^ (8 * k) := by rw [Nat.pow_mul]
  have hb : 256 ^ (k + 1) ≤ 256 ^ 8 := Nat.pow_le_pow_right (by omega) (by omega)
  have hle : (c + 1) * 256 ^ k ≤ 256 ^ (k + 1) := by rw [Nat.pow_succ, Nat.mul_comm]; exact Nat.mul_le_mul_left _ hc
  rw [Nat.add_mul] at hle
  have h256 : (256 : Nat) ^ 8 = 18446744073709551616 := by decide
  rw [wrap_u64 c (by omega), show ((c : Int) * 2 ^ (8 * k)) = ((c * 256 ^ k : Nat) : Int) by rw [hp]; push_cast; rfl, wrap_u64 _ (by omega)]
  show IntKind.u64.wrap (((BitVec.ofInt 64 (v : Int) ||| BitVec.ofInt 64 ((c * 256 ^ k : Nat) : Int)).toNat : Nat) : Int) = _
  rw [BitVec.ofInt_natCast, BitVec.ofInt_natCast, BitVec.toNat_or, BitVec.toNat_ofNat, BitVec.toNat_ofNat]
  rw [Nat.mod_eq_of_lt (a := v) (by omega), Nat.mod_eq_of_lt (a := c * 256 ^ k) (by omega)]
  rw [Nat.or_comm, hp, ← Nat.shiftLeft_eq, ← Nat.shiftLeft_add_eq_or_of_lt (by omega), Nat.shiftLeft_eq, ← hp, Nat.add_comm]
  exact wrap_u64 _ (by omega)

set_option maxHeartbeats 800000 in
set_option maxRecDepth 100000 in
theorem rnum_ok (w : World) (b : Nat) (l : Bytes) (n : Nat) (hn : n = 1 ∨ n = 4 ∨ n = 8) (hle : n ≤ l.length) (h : ReaderAt w b l) (hl : l.length ≤ 1000000) :
    Calls Tryz.prog 269 #[.pointer (some ⟨b, 0, none⟩), .int .i64 n] w fun e w' => e = .returned (.int .u64 (leVal (l.take n))) ∧ ReaderAt w' b (l.drop n) ∧ Chg (fun k => k = b) w w' := by
  have hn8 : n ≤ 8 := by omega
  have HN := Lib.hid hn
  have H := Lib.hid h
  clear hn h
  go_enter Tryz.func269, Tryz.ntmps269
  go_wp2_with fail
  refine (wrongNum_ok _ _ _ (by have := HN.out; omega) (by omega) (fun _ => by omega) (fun _ => by omega)).mono ?_
  rintro e w1 ⟨rfl, rfl⟩
  go_wp2_with fail
  refine (take_ok _ _ _ _ (by omega) (by omega) H.out (by omega)).mono ?_
  rintro e w1 ⟨rfl, hw1⟩
  rw [show ((n : Int)).toNat = n by omega] at hw1 ⊢
  obtain ⟨m, hm⟩ : ∃ m, m = l.take n := ⟨_, rfl⟩
  rw [← hm]
  have hml : m.length = n := by rw [hm]; simp; omega
  have h1 : ReaderAt w1 b (l.drop n) := by rw [← hw1]; exact blk_set H.out 0 _
  have hc1 : Chg (fun k => k = b) w w1 := by rw [← hw1]; exact Chg.setCell (F := fun k => k = b) (Chg.refl _ _) (p := ⟨b, 0, none⟩) (.inl rfl) _
  obtain ⟨cap, A, fr, hcv, hA⟩ := conv_bytes (P := Tryz.prog) w1 9 135 5 m (by kernel_rfl) (by kernel_rfl) (by kernel_rfl)
  have hz : b < w1.heap.size := blk_lt h1
  have H1 := Lib.hid h1
  have HC := Lib.hid hc1
  have HM := Lib.hid hm
  have HA := Lib.hid hA
  clear hw1 h1 hc1 hm H hA
  rw [hml] at hcv
  go_wp2_with fail
  have Hml := Lib.hid hml
  clear hml hcv
  go_loop [6, 21] (fun x i => ∃ k y : Nat, k ≤ n ∧ i = .int .i64 k ∧ x = .int .u64 y ∧ Hid (y = leVal (m.take k))) (fun x i => n - (intOf i).toNat)
  case atStart => exact ⟨0, 0, by omega, rfl, rfl, Lib.hid rfl⟩
  case round =>
    obtain ⟨k, y, hk, rfl, rfl, Hy⟩ := hrel
    by_cases hlt : k < n
    · have hkm : k < m.length := by have := Hml.out; omega
      have hc := cell_of_blk (w := (w1.alloc (.cells A 5 fr)).drew) (b := w1.heap.size) (blk_new _ _) k (HA.out k hkm)
      obtain ⟨c, hcc⟩ : ∃ c, c = m[k] := ⟨_, rfl⟩
      rw [← hcc] at hc
      have Hcc := Lib.hid hcc
      clear hcc
      have h8 : k < 8 := by omega
      go_wp2_with fail
      refine ⟨⟨k + 1, y + c.toNat * 256 ^ k, by omega, by go_num, ?_, Lib.hid ?_⟩, by simp [intOf]; omega⟩
      · rw [or_step y c.toNat k h8 ?_ c.toNat_lt]
        have := leVal_lt (m.take k)
        rw [← Hy.out] at this
        rwa [List.length_take, Nat.min_eq_left (by omega)] at this
      · rw [List.take_succ_eq_append_getElem hkm, leVal_snoc, ← Hy.out, ← Hcc.out, List.length_take, Nat.min_eq_left (by omega)]
    · obtain rfl : k = n := by omega
      go_wp2_with fail
      go_ret
      refine ⟨?_, blk_alloc _ H1.out, (HC.out.alloc _).drew⟩
      have e : y = leVal (l.take k) := by rw [Hy.out, ← HM.out, List.take_of_length_le (by rw [Hml.out]; omega)]
      rw [← e]; rfl

theorem rnum8 (w : World) (b : Nat) (l : Bytes) (hle : 8 ≤ l.length) (h : ReaderAt w b l) (hl : l.length ≤ 1000000) :
    Calls Tryz.prog 269 #[.pointer (some ⟨b, 0, none⟩), .int .i64 8] w fun e w' => e = .returned (.int .u64 (leVal (l.take 8))) ∧ ReaderAt w' b (l.drop 8) ∧ Chg (fun k => k = b) w w' :=
  rnum_ok w b l 8 (by decide) hle h hl
theorem rnum4 (w : World) (b : Nat) (l : Bytes) (hle : 4 ≤ l.length) (h : ReaderAt w b l) (hl : l.length ≤ 1000000) :
    Calls Tryz.prog 269 #[.pointer (some ⟨b, 0, none⟩), .int .i64 4] w fun e w' => e = .returned (.int .u64 (leVal (l.take 4))) ∧ ReaderAt w' b (l.drop 4) ∧ Chg (fun k => k = b) w w' :=
  rnum_ok w b l 4 (by decide) hle h hl
theorem rnum1 (w : World) (b : Nat) (l : Bytes) (hle : 1 ≤ l.length) (h : ReaderAt w b l) (hl : l.length ≤ 1000000) :
    Calls Tryz.prog 269 #[.pointer (some ⟨b, 0, none⟩), .int .i64 1] w fun e w' => e = .returned (.int .u64 (leVal (l.take 1))) ∧ ReaderAt w' b (l.drop 1) ∧ Chg (fun k => k = b) w w' :=
  rnum_ok w b l 1 (by decide) hle h hl
theorem leVal_take (l : Bytes) (n : Nat) : leVal (l.take n) < 256 ^ n := by
  have h := leVal_lt (l.take n)
  have h2 : 256 ^ (l.take n).length ≤ 256 ^ n := Nat.pow_le_pow_right (by omega) (by simp; omega)
  omega
end Go.Proofs.YtmmnjecaedmleaaGreatDoor
