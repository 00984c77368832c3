import Derived.Test.YtmmnjecaedmleaaGreatDoorM25

/- law11.One: contract. -/
namespace Go.Proofs.YtmmnjecaedmleaaGreatDoor
open Go.RowKit
attribute [local go_sem ↓] Go.wp_at_zero Go.wp_at_succ

def oneData (n : Nat) : Bytes := UInt8.ofNat n :: zs 95
def oneImg (n v : Nat) : Img := ⟨n, v, oneData n⟩
theorem oneData_length (n : Nat) : (oneData n).length = 96 := by simp [oneData]

section
variable {w : World}
set_option maxHeartbeats 1600000 in
set_option maxRecDepth 100000 in
theorem One_ok (n v : Nat) (hn : n < 256) :
    Calls Tryz.prog 13 #[.int .i64 n, .int .u64 v] w fun e w' => e = .returned (oneImg n v).val ∧ Chg No w w' := by
  obtain ⟨i0, hi, hz0, hz1, hz2⟩ := info_parts info_u8
  obtain ⟨w1, hms, hown, hgr⟩ := run_makeSlice_full (P := Tryz.prog) (w := w.alloc (.cells #[.int .i64 0, .int .u64 0, S []] 38)) w.heap.size 135 5 i0 (.int .u8 0) 1 und_bytes hi hz0 hz1 .i64 .i64 96 (by omega) (by rw [hz2]; omega) (by decide) (by simp)
  have hlist : (madeCells (Value.int .u8 0).cells (96 * 1)).toList = List.replicate 96 (.int .u8 0) := by kernel_rfl
  rw [hlist] at hown
  simp only [World.size_alloc] at hms hown
  rw [show ((96 : Nat) : Int) = 96 from rfl] at hms
  have hb : w1.heap[w.heap.size]? = some (.cells #[.int .i64 0, .int .u64 0, S []] 38 (0, 0)) := (hgr.block _ (by simp) (by simp)).trans (blk_new _ _)
  have hC1 : Chg No w w1 := ((Chg.refl No w).alloc _).grown hgr (by simp)
  have hb0 := row_cell hown (g := w.heap.size + 1) rfl (j := 0) (u := .int .u8 0) rfl
  have hfr := hown.frozenAt 0
  have hst := (hown.stored 0 (.int .u8 n)).1
  have hset : (List.replicate 96 (Value.int .u8 0)).set 0 (.int .u8 n) = (oneData n).map byteV := by
    have h1 : byteV (UInt8.ofNat n) = .int .u8 n := by
      unfold byteV
      congr 1
      simp
      omega
    have h2 : (zs 95).map byteV = List.replicate 95 (.int .u8 0) := by kernel_rfl
    rw [oneData, List.map_cons, h1, h2]
    rfl
  rw [hset] at hst
  have hcv := conv_row (l := oneData n) (base := w.heap.size) (sv := .slice (some ⟨w.heap.size + 1, 0, none⟩) 96 96) (by rw [oneData_length]; exact hst)
  have hw8 : IntKind.u8.wrap (n : Int) = n := by
    have h : IntKind.u8.wrap (n : Int) = (n : Int) % 256 := rfl
    rw [h]; omega
  have hb2 := blk_set_ne (b := w.heap.size + 1) (o := 0) (v := .int .u8 n) hb (by omega)
  obtain ⟨d0, d1, d2, f0, f1, f2⟩ := cells3 hb2
  have HC1 := Lib.hid hC1
  have HB2 := Lib.hid hb2
  have HB := Lib.hid hb
  clear hlist hown hgr hst hset hb hb2 hC1 hi hz0 hz1 hz2
  go_enter Tryz.func13, Tryz.ntmps13
  go_wp2_with fail
  obtain ⟨x0, x1, x2, _, _, _⟩ := cells3 (set3_blk HB2.out (.int .i64 n) (.int .u64 v) (S (oneData n)))
  refine bodyPost_ret (v := (oneImg n v).val) ?_ rfl ⟨rfl, ?_⟩
  · simp [results, Tryz.results13, go_sem, x0, x1, x2, oneImg, Img.val]
  · exact (HC1.out.setCell (p := ⟨w.heap.size + 1, 0, none⟩) (.inr (Nat.le_succ _)) _).set3 (.inr (Nat.le_refl _)) _ _ _
end
end Go.Proofs.YtmmnjecaedmleaaGreatDoor

/- ref1: Sum, four, Writer.Num, Stamp: contracts. -/
namespace Go.Proofs.YtmmnjecaedmleaaGreatDoor
open Go.RowKit
attribute [local go_sem ↓] Go.wp_at_zero Go.wp_at_succ

theorem wrap_u32 (n : Nat) (h : n < 4294967296) : IntKind.u32.wrap (n : Int) = n := by
  have e : IntKind.u32.wrap (n : Int) = (n : Int) % 4294967296 := rfl
  rw [e]; omega
theorem ofInt_nat (n : Nat) : BitVec.ofInt IntKind.u32.bits (n : Int) = BitVec.ofNat 32 n := BitVec.ofInt_natCast 32 n
theorem and_one (n : Nat) (h : n < 4294967296) : bits .and .u32 (n : Int) 1 = ((n % 2 : Nat) : Int) := by
  unfold bits
  simp only
  rw [ofInt_nat n]
  have h2 : ((BitVec.ofNat 32 n) &&& 1#32).toNat = n % 2 := by
    rw [BitVec.toNat_and, BitVec.toNat_ofNat]
    show (n % 2 ^ 32) &&& 1 = n % 2
    rw [Nat.and_one_is_mod]
    omega
  have h3 := wrap_u32 (n % 2) (by omega)
  exact (congrArg (fun k : Nat => IntKind.u32.wrap (k : Int)) h2).trans h3
theorem xor_max (n : Nat) (h : n < 4294967296) : bits .xor .u32 IntKind.u32.max (n : Int) = 4294967295 - (n : Int) := by
  unfold bits
  simp only
  rw [ofInt_nat n]
  have h2 : ((BitVec.allOnes 32) ^^^ (BitVec.ofNat 32 n)).toNat = 4294967295 - n := by
    rw [BitVec.allOnes_xor, BitVec.toNat_not, BitVec.toNat_ofNat]
    omega
  have h3 := wrap_u32 (4294967295 - n) (by omega)
  refine (congrArg (fun k : Nat => IntKind.u32.wrap (k : Int)) h2).trans (h3.trans ?_)
  omega
theorem crcBit_eq (y : Int) (h0 : 0 ≤ y) (h1 : y ≤ 4294967295) : crcBit y = if (y % 2 == 1) = true then bits .xor .u32 (y / 2) 3988292384 else y / 2 := by
  obtain ⟨n, rfl⟩ := Int.eq_ofNat_of_zero_le h0
  rw [crcBit, and_one n (by omega)]
  rfl
theorem crcBit_rng (y : Int) (h0 : 0 ≤ y) (h1 : y ≤ 4294967295) : 0 ≤ crcBit y ∧ crcBit y ≤ 4294967295 := by
  rw [crcBit_eq y h0 h1]
  split
  · have := u32_bits (y / 2) 3988292384; omega
  · omega
theorem crcN_rng (y : Int) (h0 : 0 ≤ y) (h1 : y ≤ 4294967295) : ∀ m, 0 ≤ crcN m y ∧ crcN m y ≤ 4294967295
  | 0 => ⟨h0, h1⟩
  | m + 1 => by obtain ⟨a, b⟩ := crcN_rng y h0 h1 m; exact crcBit_rng _ a b

set_option maxHeartbeats 800000 in
theorem rSum_ok (l : Bytes) (w : World) (hl : l.length ≤ 1000000) :
    Calls Tryz.prog 272 #[S l] w fun e w' => e = .returned (.int .u32 (crcOf l)) ∧ w = w' := by
  go_enter Tryz.func272, Tryz.ntmps272
  go_wp2_with fail
  go_loop [3, 4] (fun x i => ∃ k : Nat, ∃ y : Int, k ≤ l.length ∧ i = .int .i64 k ∧ x = .int .u32 y ∧ 0 ≤ y ∧ y ≤ 4294967295 ∧ Hid (y = crcL (l.take k))) (fun x i => l.length - (intOf i).toNat)
  case atStart => exact ⟨0, _, by omega, rfl, rfl, by omega, by omega, Lib.hid (by simp [crcL])⟩
  case round =>
    obtain ⟨k, y, hk, rfl, rfl, hy0, hy1, Hy⟩ := hrel
    by_cases hk0 : k < l.length
    · have hk1 : 0 ≤ (k : Int) := by omega
      have hxr := u32_bits y (l[k]'hk0).toNat
      go_wp2_with fail
      go_loop [3, 5] (fun x i => ∃ m : Nat, ∃ z : Int, m ≤ 8 ∧ i = .int .i64 m ∧ x = .int .u32 z ∧ 0 ≤ z ∧ z ≤ 4294967295 ∧ Hid (z = crcN m (bits .xor .u32 y (l[k]'hk0).toNat))) (fun x i => 8 - (intOf i).toNat)
      case atStart => exact ⟨0, _, by omega, rfl, rfl, (u32_bits _ _).1, Int.le_of_lt_add_one (u32_bits _ _).2, Lib.hid (by rw [byte_mod]; rfl)⟩
      case round =>
        obtain ⟨j, z, hj, rfl, rfl, hz0, hz1, Hz⟩ := hrel
        by_cases hj0 : j < 8
        · have hcb := crcBit_eq z hz0 hz1
          have hcr := crcBit_rng z hz0 hz1
          have HCB := Lib.hid hcb
          have HCR := Lib.hid hcr
          clear hcb hcr
          go_wp2_with fail
          all_goals
            refine ⟨⟨j + 1, crcBit z, by omega, by go_num, ?_, HCR.out.1, HCR.out.2, Lib.hid (by rw [crcN, ← Hz.out])⟩, by simp [intOf]; omega⟩
            rw [HCB.out]
            first | rw [if_pos ‹_›] | rw [if_neg (by simp only [*]; decide)]
        · obtain rfl : j = 8 := by omega
          go_wp2_with fail
          refine ⟨⟨k + 1, _, by omega, by go_num, rfl, hz0, hz1, Lib.hid ?_⟩, by simp [intOf]; omega⟩
          rw [crcL_take l k hk0, ← Hy.out, crcByte, ← Hz.out]
    · obtain rfl : k = l.length := by omega
      go_wp2_with fail
      go_ret
      refine ⟨?_, rfl⟩
      have := Hy.out
      rw [List.take_length] at this
      obtain ⟨n, rfl⟩ := Int.eq_ofNat_of_zero_le hy0
      rw [crcOf, ← this, xor_max n (by omega)]
      rfl

theorem le4 (n : Nat) : le 4 n = [UInt8.ofNat n, UInt8.ofNat (n / 256), UInt8.ofNat (n / 65536), UInt8.ofNat (n / 16777216)] := by
  simp [le, Nat.div_div_eq_div_mul]

set_option maxRecDepth 100000 in
theorem rfour_ok (n : Nat) (hn : n ≤ 4294967295) (w : World) :
    Calls Tryz.prog 271 #[.int .u32 n] w fun e w' => e = .returned (S (le 4 n)) ∧ Chg No w w' := by
  have hcells : (#[.int .u8 ((n : Int) % 256), .int .u8 ((n : Int) / 256 % 256), .int .u8 ((n : Int) / 65536 % 256), .int .u8 ((n : Int) / 16777216)] : Array Value) = ((le 4 n).map byteV).toArray := by
    rw [le4]
    simp only [List.map_cons, List.map_nil, byteV]
    have h : ∀ k : Nat, (((UInt8.ofNat k).toNat : Nat) : Int) = (k : Int) % 256 := fun k => by simp
    rw [h, h, h, h]
    have h3 : (((n / 16777216 : Nat) : Int) % 256) = (n : Int) / 16777216 := by omega
    rw [h3]
    rfl
  have hcv : (convert 135 9 (.slice (some ⟨w.heap.size, 0, none⟩) 4 4)).run Tryz.prog (w.alloc (.cells #[.int .u8 ((n : Int) % 256), .int .u8 ((n : Int) / 256 % 256), .int .u8 ((n : Int) / 65536 % 256), .int .u8 ((n : Int) / 16777216)] 5)) = .ok (S (le 4 n)) (w.alloc (.cells #[.int .u8 ((n : Int) % 256), .int .u8 ((n : Int) / 256 % 256), .int .u8 ((n : Int) / 65536 % 256), .int .u8 ((n : Int) / 16777216)] 5)) := by
    have h := run_convert_bytes_back (P := Tryz.prog) (w.alloc (.cells ((le 4 n).map byteV).toArray 5)) 135 9 5 ⟨w.heap.size, 0, none⟩ 4 (le 4 n) (by kernel_rfl) (by kernel_rfl) (by kernel_rfl) (byteV_at _ _ _ (fun j u hu => World.news_of_block (blk_new w _) j u (by simpa using hu)))
    rw [hcells]
    exact h
  clear hcells
  go_enter Tryz.func271, Tryz.ntmps271
  go_wp2_with fail
  go_ret
  exact ⟨rfl, (Chg.refl No w).alloc _⟩
end Go.Proofs.YtmmnjecaedmleaaGreatDoor

/- ref1: Writer.Num: contract. -/
namespace Go.Proofs.YtmmnjecaedmleaaGreatDoor
open Go.RowKit
attribute [local go_sem ↓] Go.wp_at_zero Go.wp_at_succ

/-- The document's Writer: what it holds, no error. -/
def RWrAt (base : Nat) (w : World) (b : Nat) (l : Bytes) : Prop :=
  base ≤ b ∧ ∃ sv, w.heap[b]? = some (.cells #[sv, .int .i64 0] 237 (0, 0)) ∧ w.ownsRow base 5 1 sv l.length (l.map byteV) ∧ sv.ownBlock ≠ some b

theorem rfail_ok (w : World) (b : Nat) (sv : Value) (h : w.heap[b]? = some (.cells #[sv, .int .i64 0] 237 (0, 0))) :
    Calls Tryz.prog 270 #[.pointer (some ⟨b, 0, none⟩), .int .i64 0] w fun e w' => e = .returned (.bool false) ∧ w.setCell ⟨b, 1, none⟩ (.int .i64 0) = w' := by
  have c1 := cell_of_blk h 1 rfl
  have f1 := free_of_blk h 1
  have d1 := cell_of_blk (blk_set h 1 (.int .i64 0)) 1 rfl
  clear h
  go_enter Tryz.func270, Tryz.ntmps270
  go_wp2
  go_ret; exact ⟨rfl, rfl⟩

set_option maxHeartbeats 1600000 in
set_option maxRecDepth 100000 in
theorem rnum_ok1 (base : Nat) (w : World) (b : Nat) (l : Bytes) (v n : Nat) (h : RWrAt base w b l) (hl : l.length ≤ 1000000) (hn1 : 1 ≤ n) (hn8 : n ≤ 8) (hv : v / 256 ^ n = 0) (hv64 : v < 18446744073709551616) :
    Calls Tryz.prog 189 #[.pointer (some ⟨b, 0, none⟩), .int .u64 v, .int .i64 n] w fun e w' => e = .returned (.tuple #[]) ∧ RWrAt base w' b (l ++ le n v) ∧ Below base w w' := by
  obtain ⟨hb, sv, hblk, hown, hne⟩ := h
  have HB := Lib.hid hblk
  have HO := Lib.hid hown
  have HE := Lib.hid hne
  have HV := Lib.hid hv
  have HV64 := Lib.hid hv64
  have hbz := blk_lt hblk
  clear hblk hown hne hv hv64
  go_enter Tryz.func189, Tryz.ntmps189
  go_wp2_with fail
  refine (rfail_ok _ _ _ HB.out).mono ?_
  rintro e w1 ⟨rfl, hw1⟩
  have hb1 : w1.heap[b]? = some (.cells #[sv, .int .i64 0] 237 (0, 0)) := by rw [← hw1]; exact blk_set HB.out 1 _
  have ho1 : w1.ownsRow base 5 1 sv l.length (l.map byteV) := by rw [← hw1]; exact row_set_ne HO.out _ HE.out
  have hbl1 : Below base w w1 := by rw [← hw1]; exact (Below.refl _ _).setCell hb _
  have hz1 : b < w1.heap.size := blk_lt hb1
  have HB1 := Lib.hid hb1
  have HO1 := Lib.hid ho1
  have HL1 := Lib.hid hbl1
  clear hw1 hb1 ho1 hbl1
  go_wp2_with fail
  go_loopw [1, 6, 7] (fun x bv i wr => ∃ k y : Nat, k ≤ n ∧ i = .int .i64 k ∧ x = .int .u64 y ∧ Hid (y = v / 256 ^ k) ∧ Hid (wr.ownsRow w1.heap.size 5 1 bv k ((le k v).map byteV)) ∧ Hid (Chg No w1 wr)) (fun x bv i _ => n - (intOf i).toNat)
  case atStart => exact ⟨0, v, Nat.zero_le _, rfl, rfl, Lib.hid (by simp), Lib.hid (World.ownsRow_nil _ _ _ _), Lib.hid (Chg.refl _ _)⟩
  case round =>
    obtain ⟨k, y, hk, rfl, rfl, Hy, HX, HC⟩ := hrel
    by_cases hlt : k < n
    · have hzr := HC.out.size
      have hwq : IntKind.u64.wrap ((y : Int) / 256) = ((y / 256 : Nat) : Int) := by
        have h1 : y ≤ v := by rw [Hy.out]; exact Nat.div_le_self _ _
        have h2 := wrap_u64 (y / 256) (by have := HV64.out; omega)
        rw [← h2]
        rfl
      have HWQ := Lib.hid hwq
      clear hwq
      go_wp2_with (at_builtin; refine Halt1.hold ?_)
      refine Halt1.go ?_
      refine wpL_app el_u8 (.tmp 23) (.tmp 27) rfl rfl w1.heap.size u6 _ _ rfl (HX.out.alloc _) wr.heap.size 1 1 [.int .u8 (y % 256)] _ _ rfl (blk_new _ _) rfl (by simp [Value.oneCell']) (by omega) (by omega) (by omega) (by simp; omega) ?_
      intro g cap w2 hown2 hgrow2 hat2 hlt2
      have HC2 := Lib.hid ((HC.out.alloc _).grown hgrow2 (fun j hj => .inr (HX.out.lt j hj).1))
      have HO2 := Lib.hid hown2
      clear hown2 hgrow2 hat2
      go_wp2_with fail
      refine ⟨⟨k + 1, y / 256, by omega, by go_num, by rw [HWQ.out], Lib.hid (by rw [Hy.out, Nat.div_div_eq_div_mul, Nat.pow_succ]), Lib.hid ?_, HC2⟩, by simp [intOf]; omega⟩
      have := HO2.out
      rw [le_snoc]
      simpa [byteV, Hy.out] using this
    · obtain rfl : k = n := by omega
      obtain rfl : y = 0 := by rw [Hy.out, HV.out]
      have hb2 := HC.out.obj HB1.out id
      have ho2 := HC.out.row HO1.out (fun _ _ => id)
      have c0 := cell_of_blk hb2 0 rfl
      have hzr := HC.out.size
      obtain ⟨g, cap, hgv⟩ : ∃ g cap, u6 = .slice (some ⟨g, 0, none⟩) k cap := by
        rcases HX.out.2 with ⟨hv, hn⟩ | ⟨g, cap, cur, hv, _⟩
        · omega
        · exact ⟨g, cap, hv⟩
      have hgl := HX.out.lt g (by rw [hgv]; rfl)
      have hcs : ∀ j u, ((le k v).map byteV)[j]? = some u → wr.cell? ⟨g, j, none⟩ = some u := fun j u hu => row_cell HX.out (by rw [hgv]; rfl) hu
      have HCS := Lib.hid hcs
      have HB2 := Lib.hid hb2
      have HO2 := Lib.hid ho2
      subst hgv
      clear hcs hb2 ho2
      go_wp2_with (at_builtin; refine Halt1.hold ?_)
      refine Halt1.go ?_
      refine wpL_app2 el_u8 (.tmp 39) (.tmp 40) rfl rfl base sv l.length (l.map byteV) rfl HO2.out g k cap ((le k v).map byteV) rfl HCS.out (by simp) ?_ (by omega) (by omega) (by omega) (by omega) ?_
      · intro u hu
        obtain ⟨c, _, rfl⟩ := List.mem_map.1 hu
        rfl
      intro g3 cap3 w3 hown3 hgrow3 hat3 hlt3
      have hne3 : some b ≠ sv.ownBlock := fun e => HE.out e.symm
      have hb3 := (hgrow3.block b (by omega) hne3).trans HB2.out
      have f3 := free_of_blk hb3 0
      have c3 := cell_of_blk hb3 0 rfl
      have hgb : g3 ≠ b := by
        rcases hat3 with h | h
        · intro e; subst e; exact HE.out h
        · omega
      have HL3 := Lib.hid ((HL1.out.trans (HC.out.toBelow.mono (by omega))).grown hgrow3 (by omega) (fun k hk => (HO2.out.lt k hk).1))
      have HB3 := Lib.hid hb3
      have HO3 := Lib.hid hown3
      have HG := Lib.hid hgb
      clear hown3 hgrow3 hat3 hb3 c0
      go_wp2_with fail
      go_end0
      refine ⟨rfl, ⟨hb, _, blk_set HB3.out 0 _, ?_, ?_⟩, HL3.out.setCell hb _⟩
      · rw [List.length_append, le_length, List.map_append]
        exact row_set_ne HO3.out _ (by simp [Value.ownBlock]; exact HG.out)
      · simp [Value.ownBlock]; exact HG.out

set_option maxHeartbeats 1600000 in
set_option maxRecDepth 100000 in
theorem rnum_full (base : Nat) (w : World) (b g0 : Nat) (l : Bytes) (v n : Nat) (hblk : w.heap[b]? = some (.cells #[.slice (some ⟨g0, 0, none⟩) l.length l.length, .int .i64 0] 237 (0, 0))) (fr : Nat × Nat) (hown : w.heap[g0]? = some (.cells (l.map byteV).toArray 5 fr)) (hne : g0 ≠ b) (hb : base ≤ b) (hl : l.length ≤ 1000000) (hn1 : 1 ≤ n) (hn8 : n ≤ 8) (hv : v / 256 ^ n = 0) (hv64 : v < 18446744073709551616) :
    Calls Tryz.prog 189 #[.pointer (some ⟨b, 0, none⟩), .int .u64 v, .int .i64 n] w fun e w' => e = .returned (.tuple #[]) ∧ RWrAt base w' b (l ++ le n v) ∧ Below base w w' := by
  have HB := Lib.hid hblk
  have HO := Lib.hid hown
  have HE := Lib.hid hne
  have HV := Lib.hid hv
  have HV64 := Lib.hid hv64
  have hbz := blk_lt hblk
  clear hblk hown hne hv hv64
  go_enter Tryz.func189, Tryz.ntmps189
  go_wp2_with fail
  refine (rfail_ok _ _ _ HB.out).mono ?_
  rintro e w1 ⟨rfl, hw1⟩
  have hb1 : w1.heap[b]? = some (.cells #[.slice (some ⟨g0, 0, none⟩) l.length l.length, .int .i64 0] 237 (0, 0)) := by rw [← hw1]; exact blk_set HB.out 1 _
  have ho1 : w1.heap[g0]? = some (.cells (l.map byteV).toArray 5 fr) := by rw [← hw1]; exact blk_set_ne HO.out HE.out
  have hbl1 : Below base w w1 := by rw [← hw1]; exact (Below.refl _ _).setCell hb _
  have hz1 : b < w1.heap.size := blk_lt hb1
  have HB1 := Lib.hid hb1
  have HO1 := Lib.hid ho1
  have HL1 := Lib.hid hbl1
  clear hw1 hb1 ho1 hbl1
  go_wp2_with fail
  go_loopw [1, 6, 7] (fun x bv i wr => ∃ k y : Nat, k ≤ n ∧ i = .int .i64 k ∧ x = .int .u64 y ∧ Hid (y = v / 256 ^ k) ∧ Hid (wr.ownsRow w1.heap.size 5 1 bv k ((le k v).map byteV)) ∧ Hid (Chg No w1 wr)) (fun x bv i _ => n - (intOf i).toNat)
  case atStart => exact ⟨0, v, Nat.zero_le _, rfl, rfl, Lib.hid (by simp), Lib.hid (World.ownsRow_nil _ _ _ _), Lib.hid (Chg.refl _ _)⟩
  case round =>
    obtain ⟨k, y, hk, rfl, rfl, Hy, HX, HC⟩ := hrel
    by_cases hlt : k < n
    · have hzr := HC.out.size
      have hwq : IntKind.u64.wrap ((y : Int) / 256) = ((y / 256 : Nat) : Int) := by
        have h1 : y ≤ v := by rw [Hy.out]; exact Nat.div_le_self _ _
        have h2 := wrap_u64 (y / 256) (by have := HV64.out; omega)
        rw [← h2]
        rfl
      have HWQ := Lib.hid hwq
      clear hwq
      go_wp2_with (at_builtin; refine Halt1.hold ?_)
      refine Halt1.go ?_
      refine wpL_app el_u8 (.tmp 23) (.tmp 27) rfl rfl w1.heap.size u6 _ _ rfl (HX.out.alloc _) wr.heap.size 1 1 [.int .u8 (y % 256)] _ _ rfl (blk_new _ _) rfl (by simp [Value.oneCell']) (by omega) (by omega) (by omega) (by simp; omega) ?_
      intro g cap w2 hown2 hgrow2 hat2 hlt2
      have HC2 := Lib.hid ((HC.out.alloc _).grown hgrow2 (fun j hj => .inr (HX.out.lt j hj).1))
      have HO2 := Lib.hid hown2
      clear hown2 hgrow2 hat2
      go_wp2_with fail
      refine ⟨⟨k + 1, y / 256, by omega, by go_num, by rw [HWQ.out], Lib.hid (by rw [Hy.out, Nat.div_div_eq_div_mul, Nat.pow_succ]), Lib.hid ?_, HC2⟩, by simp [intOf]; omega⟩
      have := HO2.out
      rw [le_snoc]
      simpa [byteV, Hy.out] using this
    · obtain rfl : k = n := by omega
      obtain rfl : y = 0 := by rw [Hy.out, HV.out]
      have hb2 := HC.out.obj HB1.out id
      have ho2 := HC.out.obj HO1.out id
      have c0 := cell_of_blk hb2 0 rfl
      have hzr := HC.out.size
      obtain ⟨g, cap, hgv⟩ : ∃ g cap, u6 = .slice (some ⟨g, 0, none⟩) k cap := by
        rcases HX.out.2 with ⟨hv, hn⟩ | ⟨g, cap, cur, hv, _⟩
        · omega
        · exact ⟨g, cap, hv⟩
      have hgl := HX.out.lt g (by rw [hgv]; rfl)
      have hcs : ∀ j u, ((le k v).map byteV)[j]? = some u → wr.cell? ⟨g, j, none⟩ = some u := fun j u hu => row_cell HX.out (by rw [hgv]; rfl) hu
      have HCS := Lib.hid hcs
      have HB2 := Lib.hid hb2
      have HO2 := Lib.hid ho2
      subst hgv
      clear hcs hb2 ho2
      go_wp2_with (at_builtin; refine Halt1.hold ?_)
      refine Halt1.go ?_
      obtain ⟨i0, hi, hz0, hz1, hz2⟩ := info_parts info_u8
      have hadd : ∀ (B j : Nat), (⟨B, 0, none⟩ : Addr).add j = ⟨B, j, none⟩ := fun B j => by unfold Addr.add; split <;> simp_all
      refine wpList_append_grows wr rfl (.tmp 39) (.tmp 40) 135 rfl 5 i0 (.int .u8 0) 1 1 und_bytes hi hz0 hz1 hz2 rfl (by omega) (some ⟨g0, 0, none⟩) l.length l.length (l.map byteV) rfl (by simp) (by simp) ?_ ⟨g, 0, none⟩ k cap ((le k v).map byteV) rfl (by simp) (fun j u hu => by rw [hadd]; exact HCS.out j u hu) ?_ (by omega) (by unfold maxLen; omega) (by omega) ?_
      · intro bb hbb j u hu
        simp only [Option.some.injEq] at hbb
        subst hbb
        exact World.news_of_block HO2.out j u (by simpa using hu)
      · intro u hu
        obtain ⟨c, _, rfl⟩ := List.mem_map.1 hu
        rfl
      intro v3 w3 hown3 hgrow3
      have hb3 := (hgrow3.block b (by omega) (by simp)).trans HB2.out
      have f3 := free_of_blk hb3 0
      have c3 := cell_of_blk hb3 0 rfl
      obtain ⟨g3, cap3, hv3⟩ : ∃ g cap, v3 = .slice (some ⟨g, 0, none⟩) (l.length + k) cap := by
        rcases hown3.2 with ⟨hv, hn⟩ | ⟨g, cap, cur, hv, _⟩
        · omega
        · exact ⟨g, cap, hv⟩
      have hgb : g3 ≠ b := by
        have h1 := (hown3.lt g3 (by rw [hv3]; rfl)).1
        have := HC.out.size
        omega
      have HL3 := Lib.hid ((HL1.out.trans (HC.out.toBelow.mono (by omega))).grown hgrow3 (by omega) (fun k hk => by simp at hk))
      have HB3 := Lib.hid hb3
      have HO3 := Lib.hid (ownsRow_base hown3 (show base ≤ wr.heap.size by omega))
      have HG := Lib.hid hgb
      subst hv3
      clear hown3 hgrow3 hb3 c0 hi hz0 hz1 hz2 hadd
      go_wp2_with fail
      go_end0
      refine ⟨rfl, ⟨hb, _, blk_set HB3.out 0 _, ?_, ?_⟩, HL3.out.setCell hb _⟩
      · rw [List.length_append, le_length, List.map_append]
        exact row_set_ne HO3.out _ (by simp [Value.ownBlock]; exact HG.out)
      · simp [Value.ownBlock]; exact HG.out

theorem run_make_zero (w : World) (n : Nat) (hn : n ≤ 1000000) :
    ∃ w1, (Instr.makeSlice 135 (.int .i64 (n : Int)) (.int .i64 (n : Int))).run Tryz.prog w = .ok (.slice (some ⟨w.heap.size, 0, none⟩) n n) w1 ∧
      (convert 135 9 (.slice (some ⟨w.heap.size, 0, none⟩) n n)).run Tryz.prog w1 = .ok (S (zs n)) w1 ∧ Chg No w w1 := by
  obtain ⟨i0, hi, hz0, hz1, hz2⟩ := info_parts info_u8
  obtain ⟨w1, hms, hown, hgr⟩ := run_makeSlice_full (P := Tryz.prog) (w := w) w.heap.size 135 5 i0 (.int .u8 0) 1 und_bytes hi hz0 hz1 .i64 .i64 n (by omega) (by rw [hz2]; omega) (by unfold maxLen; omega) (Nat.le_refl _)
  have hlist : (madeCells (Value.int .u8 0).cells (n * 1)).toList = (zs n).map byteV := by
    have h1 : byteV 0 = .int .u8 0 := rfl
    rw [Nat.mul_one, madeCells, zs, List.map_replicate, h1]
    apply List.ext_getElem?
    intro j
    simp only [Array.toList_map, Array.toList_range, List.getElem?_map, List.getElem?_replicate]
    by_cases h : j < n
    · rw [if_pos h, List.getElem?_range h]
      simp [Value.cells, Nat.mod_one]
    · rw [if_neg h, List.getElem?_eq_none (by simpa using h)]
      rfl
  rw [hlist] at hown
  refine ⟨w1, hms, ?_, (Chg.refl No w).grown hgr (by simp)⟩
  exact conv_row (base := w.heap.size) (l := zs n) (by rw [zs_length]; exact hown)

set_option maxHeartbeats 800000 in
set_option maxRecDepth 100000 in
theorem rStamp_ok (s : Bytes) (hs : s.length ≤ 60) (w : World) :
    Calls Tryz.prog 190 #[S s, .int .i64 64] w fun e w' => e = .returned (.tuple #[S (stamp s), .int .i64 0]) ∧ Chg No w w' := by
  obtain ⟨n, hn⟩ : ∃ n, n = 60 - s.length := ⟨_, rfl⟩
  obtain ⟨w1, hms, hcv, hc1⟩ := run_make_zero w n (by omega)
  have hni : (60 : Int) - (s.length : Int) = (n : Int) := by omega
  have hni2 : IntKind.i64.wrap ((60 : Int) - (s.length : Int)) = (n : Int) := by rw [hni]; exact IntWalk.i64_in _ (by omega)
  have hlt : decide ((60 : Int) < (s.length : Int)) = false := by simp only [decide_eq_false_iff_not]; omega
  have hst : stamp s = (s ++ zs n) ++ le 4 (crcOf (s ++ zs n)).toNat := by rw [stamp, hn]
  obtain ⟨k, hk⟩ : ∃ k : Nat, crcOf (s ++ zs n) = k := ⟨(crcOf (s ++ zs n)).toNat, by have := crcOf_range (s ++ zs n); omega⟩
  have hk2 : k ≤ 4294967295 := by have := crcOf_range (s ++ zs n); omega
  have hkn : (crcOf (s ++ zs n)).toNat = k := by omega
  have hlen : (s ++ zs n).length ≤ 1000000 := by rw [List.length_append, zs_length]; omega
  rw [hst, hkn, List.append_assoc]
  have HC1 := Lib.hid hc1
  have HK := Lib.hid hk
  clear hst hc1 hk hkn hn
  go_enter Tryz.func190, Tryz.ntmps190
  go_wp2_with fail
  refine (rSum_ok (s ++ zs n) w1 hlen).mono ?_
  rw [HK.out]
  rintro e w2 ⟨rfl, rfl⟩
  go_wp2_with fail
  refine (rfour_ok k hk2 w1).mono ?_
  rintro e w3 ⟨rfl, hc3⟩
  have HC3 := Lib.hid (HC1.out.trans_same hc3)
  clear hc3
  go_wp2_with fail
  go_ret2
  exact ⟨rfl, HC3.out⟩
end Go.Proofs.YtmmnjecaedmleaaGreatDoor
