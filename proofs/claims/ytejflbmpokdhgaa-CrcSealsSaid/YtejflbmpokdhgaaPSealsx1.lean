/- Written by a program of this session (xp.py) for this claim: functions and their walks. -/
import Derived.Test.YtejflbmpokdhgaaPSealsx0
namespace Go.Proofs.Ytejflbmpokdhgaa.PSeals
open Go.RowKit Go.Proofs.YtejflbmpokdhgaaW.PrintWords Go.Proofs.YtejflbmpokdhgaaW.PrintLast Go.Proofs.YtejflbmpokdhgaaW.PrintMore
attribute [local go_sem] max2_int min2_int max_two min_two max_three min_three max_four min_four   -- for this text's walks alone
set_option linter.unusedVariables false
set_option linter.unusedSimpArgs false

-- NOT PRINTED: function 73 (crc_table)

/-! ### crc_More: function 42 -/
section
open Go.Proofs.Ytejflbmpokdhgaa.K
def halfC (n : Int) : Int := if Go.bits .and .u32 n 1 = 1 then Go.bits .xor .u32 (n / 2) 2197175160 else n / 2
def halfN : Nat → Int → Int
  | 0, n => n
  | k + 1, n => halfC (halfN k n)
def tabAt (k : Nat) : Array Value := ((List.range 16).map fun i => Value.int .u32 (if i < k then halfN 4 i else 0)).toArray
theorem tabAt_size (k : Nat) : (tabAt k).size = 16 := by simp [tabAt]
theorem tabAt_succ (k : Nat) (hk : k < 16) : (tabAt k).setIfInBounds k (.int .u32 (halfN 4 k)) = tabAt (k + 1) := by
  apply Array.ext_getElem?
  intro j
  by_cases hj : j < 16
  · by_cases e : k = j
    · subst e
      rw [Array.getElem?_setIfInBounds_self_of_lt (by rw [tabAt_size]; exact hk)]
      simp [tabAt, hk]
    · rw [Array.getElem?_setIfInBounds_ne e]
      simp only [tabAt, List.getElem?_toArray, List.getElem?_map, List.getElem?_range hj, Option.map_some]
      by_cases h1 : j < k
      · rw [if_pos h1, if_pos (by omega)]
      · rw [if_neg h1, if_neg (by omega)]
  · rw [Array.getElem?_eq_none (by simp [tabAt_size]; omega), Array.getElem?_eq_none (by rw [tabAt_size]; omega)]
theorem tabAt_one (k : Nat) : ∀ u ∈ (tabAt k).toList, u.oneCell' = true := by
  intro u hu
  simp only [tabAt, List.mem_map] at hu
  obtain ⟨i, _, rfl⟩ := hu
  rfl
set_option maxHeartbeats 4000000 in
theorem half_calls (n : Int) (w : World) : Calls Try.prog 84 #[.int .u32 n] w fun e w' => e = .returned (.int .u32 (halfC n)) ∧ w = w' := by
  unfold halfC
  by_cases h : Go.bits .and .u32 n 1 = 1
  · rw [if_pos h]
    have h1 : (Go.bits .and .u32 n 1 == 1) = true := by simpa using h
    clear h
    go_enter Try.func84, Try.ntmps84
    go_wp2
    go_ret
    exact ⟨rfl, rfl⟩
  · rw [if_neg h]
    have h1 : (Go.bits .and .u32 n 1 == 1) = false := by simpa using h
    clear h
    go_enter Try.func84, Try.ntmps84
    go_wp2
    go_ret
    exact ⟨rfl, rfl⟩
set_option maxHeartbeats 4000000 in
theorem crc_table.calls (w : World) : Calls Try.prog 73 #[] w fun e w' => e = .returned (.agg (tabAt 16)) ∧ Below w.heap.size w w' := by
  have HA := Hp.start w
  go_enter Try.func73, Try.ntmps73
  go_wp2_with (first | ((with_reducible refine g_go ?_ ?_); exact rfl) | ((with_reducible refine is_load _ _ ?_); refine u_load HA (by exact rfl) (by (repeat (first | exact MemL.here | refine MemL.next ?_))) (by exact rfl) (by exact rfl) ?_) | ((with_reducible refine is_load _ _ ?_); refine u_seg HA (by exact rfl) (by (repeat (first | exact MemL.here | refine MemL.next ?_))) (by exact rfl) (by (repeat (first | exact SegL.done | apply SegL.take | apply SegL.skip))) ?_) | ((with_reducible refine is_store _ _ _ ?_); (first | (refine u_store1 HA (by exact rfl) (by exact rfl) (by exact rfl) (by (repeat (first | exact MemL.here | refine MemL.next ?_))) (by (repeat (first | exact SplL.done | (apply SplL.put; exact rfl) | apply SplL.skip))) (by (repeat (first | exact PickL.here | apply PickL.next))) (by exact rfl) ?_) | (refine u_storeS HA (by exact rfl) (by exact rfl) (by (repeat (first | exact MemL.here | refine MemL.next ?_))) (by (repeat (first | exact SplL.done | (apply SplL.put; exact rfl) | apply SplL.skip))) (by (repeat (first | exact PickL.here | apply PickL.next))) (by exact rfl) (by exact rfl) ?_)); clear HA; intro wn HA) | ((with_reducible refine u_new HA ?_); clear HA; intro gn wn hg HA; (try rw [← hg]); clear hg))
  go_loopw [4] (fun v4 wr => ∃ k : Nat, k ≤ 16 ∧ v4 = .int .i64 k ∧ Hp w.heap.size (fun _ => False) w wr [⟨gn, tabAt k, 97⟩]) (fun v4 _ => 16 - (intOf v4).toNat)
  case atStart => exact ⟨0, by omega, rfl, HA⟩
  case round =>
    clear HA
    obtain ⟨k, hk, rfl, HA⟩ := hrel
    by_cases hlt : k < 16
    · have e1 : decide ((k : Int) < 16) = true := by simp; omega
      have hkI : (k : Int) < 16 := by omega
      go_wp2_with (first | ((with_reducible refine g_go ?_ ?_); exact rfl) | ((with_reducible refine is_load _ _ ?_); refine u_load HA (by exact rfl) (by (repeat (first | exact MemL.here | refine MemL.next ?_))) (by exact rfl) (by exact rfl) ?_) | ((with_reducible refine is_load _ _ ?_); refine u_seg HA (by exact rfl) (by (repeat (first | exact MemL.here | refine MemL.next ?_))) (by exact rfl) (by (repeat (first | exact SegL.done | apply SegL.take | apply SegL.skip))) ?_) | ((with_reducible refine is_store _ _ _ ?_); (first | (refine u_store1 HA (by exact rfl) (by exact rfl) (by exact rfl) (by (repeat (first | exact MemL.here | refine MemL.next ?_))) (by (repeat (first | exact SplL.done | (apply SplL.put; exact rfl) | apply SplL.skip))) (by (repeat (first | exact PickL.here | apply PickL.next))) (by exact rfl) ?_) | (refine u_storeS HA (by exact rfl) (by exact rfl) (by (repeat (first | exact MemL.here | refine MemL.next ?_))) (by (repeat (first | exact SplL.done | (apply SplL.put; exact rfl) | apply SplL.skip))) (by (repeat (first | exact PickL.here | apply PickL.next))) (by exact rfl) (by exact rfl) ?_)); clear HA; intro wn HA) | ((with_reducible refine u_new HA ?_); clear HA; intro gn wn hg HA; (try rw [← hg]); clear hg))
      go_loopw [9, 3] (fun v9 v3 wr => ∃ j : Nat, j ≤ 4 ∧ v9 = .int .i64 j ∧ v3 = .int .u32 (halfN j k) ∧ Hp w.heap.size (fun _ => False) w wr [⟨gn, tabAt k, 97⟩]) (fun v9 _ _ => 4 - (intOf v9).toNat)
      case atStart => exact ⟨0, by omega, rfl, rfl, HA⟩
      case round =>
        clear HA
        obtain ⟨j, hj, rfl, rfl, HA⟩ := hrel
        by_cases hlj : j < 4
        · have e2 : decide ((j : Int) < 4) = true := by simp; omega
          have hjI : (j : Int) < 4 := by omega
          go_wp2_with (first | ((with_reducible refine g_go ?_ ?_); exact rfl) | ((with_reducible refine is_load _ _ ?_); refine u_load HA (by exact rfl) (by (repeat (first | exact MemL.here | refine MemL.next ?_))) (by exact rfl) (by exact rfl) ?_) | ((with_reducible refine is_load _ _ ?_); refine u_seg HA (by exact rfl) (by (repeat (first | exact MemL.here | refine MemL.next ?_))) (by exact rfl) (by (repeat (first | exact SegL.done | apply SegL.take | apply SegL.skip))) ?_) | ((with_reducible refine is_store _ _ _ ?_); (first | (refine u_store1 HA (by exact rfl) (by exact rfl) (by exact rfl) (by (repeat (first | exact MemL.here | refine MemL.next ?_))) (by (repeat (first | exact SplL.done | (apply SplL.put; exact rfl) | apply SplL.skip))) (by (repeat (first | exact PickL.here | apply PickL.next))) (by exact rfl) ?_) | (refine u_storeS HA (by exact rfl) (by exact rfl) (by (repeat (first | exact MemL.here | refine MemL.next ?_))) (by (repeat (first | exact SplL.done | (apply SplL.put; exact rfl) | apply SplL.skip))) (by (repeat (first | exact PickL.here | apply PickL.next))) (by exact rfl) (by exact rfl) ?_)); clear HA; intro wn HA) | ((with_reducible refine u_new HA ?_); clear HA; intro gn wn hg HA; (try rw [← hg]); clear hg) | (go_at_call 84; refine (half_calls _ _).mono ?_; rintro e wn ⟨rfl, rfl⟩))
          go_roundw
          case rel => exact ⟨j + 1, by omega, by go_num, rfl, HA⟩
          case measure => simp [intOf]; omega
        · obtain rfl : j = 4 := by omega
          have e2 : decide (((4 : Nat) : Int) < 4) = false := by simp
          go_wp2_with (first | ((with_reducible refine g_go ?_ ?_); exact rfl) | ((with_reducible refine is_load _ _ ?_); refine u_load HA (by exact rfl) (by (repeat (first | exact MemL.here | refine MemL.next ?_))) (by exact rfl) (by exact rfl) ?_) | ((with_reducible refine is_load _ _ ?_); refine u_seg HA (by exact rfl) (by (repeat (first | exact MemL.here | refine MemL.next ?_))) (by exact rfl) (by (repeat (first | exact SegL.done | apply SegL.take | apply SegL.skip))) ?_) | ((with_reducible refine is_store _ _ _ ?_); (first | (refine u_store1 HA (by exact rfl) (by exact rfl) (by exact rfl) (by (repeat (first | exact MemL.here | refine MemL.next ?_))) (by (repeat (first | exact SplL.done | (apply SplL.put; exact rfl) | apply SplL.skip))) (by (repeat (first | exact PickL.here | apply PickL.next))) (by exact rfl) ?_) | (refine u_storeS HA (by exact rfl) (by exact rfl) (by (repeat (first | exact MemL.here | refine MemL.next ?_))) (by (repeat (first | exact SplL.done | (apply SplL.put; exact rfl) | apply SplL.skip))) (by (repeat (first | exact PickL.here | apply PickL.next))) (by exact rfl) (by exact rfl) ?_)); clear HA; intro wn HA) | ((with_reducible refine u_new HA ?_); clear HA; intro gn wn hg HA; (try rw [← hg]); clear hg) | ((with_reducible refine is_store _ _ _ ?_); refine u_storeAt HA (by exact rfl) (by exact rfl) (by exact rfl) (by (repeat (first | exact MemL.here | refine MemL.next ?_))) (by rw [tabAt_size]; exact hlt) (by (repeat (first | exact PickL.here | apply PickL.next))) (by exact rfl) ?_; clear HA; intro wn HA; rw [tabAt_succ k hlt] at HA))
          go_roundw
          case rel => exact ⟨k + 1, by omega, by go_num, HA⟩
          case measure => simp [intOf]; omega
    · obtain rfl : k = 16 := by omega
      have e1 : decide (((16 : Nat) : Int) < 16) = false := by simp
      go_wp2_with (first | ((with_reducible refine g_go ?_ ?_); exact rfl) | ((with_reducible refine is_load _ _ ?_); refine u_load HA (by exact rfl) (by (repeat (first | exact MemL.here | refine MemL.next ?_))) (by exact rfl) (by exact rfl) ?_) | ((with_reducible refine is_load _ _ ?_); refine u_seg HA (by exact rfl) (by (repeat (first | exact MemL.here | refine MemL.next ?_))) (by exact rfl) (by (repeat (first | exact SegL.done | apply SegL.take | apply SegL.skip))) ?_) | ((with_reducible refine is_store _ _ _ ?_); (first | (refine u_store1 HA (by exact rfl) (by exact rfl) (by exact rfl) (by (repeat (first | exact MemL.here | refine MemL.next ?_))) (by (repeat (first | exact SplL.done | (apply SplL.put; exact rfl) | apply SplL.skip))) (by (repeat (first | exact PickL.here | apply PickL.next))) (by exact rfl) ?_) | (refine u_storeS HA (by exact rfl) (by exact rfl) (by (repeat (first | exact MemL.here | refine MemL.next ?_))) (by (repeat (first | exact SplL.done | (apply SplL.put; exact rfl) | apply SplL.skip))) (by (repeat (first | exact PickL.here | apply PickL.next))) (by exact rfl) (by exact rfl) ?_)); clear HA; intro wn HA) | ((with_reducible refine u_new HA ?_); clear HA; intro gn wn hg HA; (try rw [← hg]); clear hg) | ((with_reducible refine is_load _ _ ?_); refine u_row HA (by exact rfl) (by (repeat (first | exact MemL.here | refine MemL.next ?_))) (by exact rfl) (tabAt_size 16) ?_) | ((with_reducible refine is_store _ _ _ ?_); refine u_over HA (by exact rfl) (by exact rfl) (by (repeat (first | exact PickL.here | apply PickL.next))) (by exact rfl) (tabAt_size 16) rfl (tabAt_one 16) ?_; clear HA; intro wn HA))
      exact bodyPost_ret (res1 rfl (u_rvs HA (by exact rfl) (by (repeat (first | exact MemL.here | refine MemL.next ?_))) (by exact rfl) (tabAt_size 16))) rfl ⟨rfl, HA.below⟩
def crcStep (n : Int) : Int := Go.bits .xor .u32 (n / 16) (halfN 4 (Go.bits .and .u32 n 15))
def crcByte (n c : Int) : Int := crcStep (crcStep (Go.bits .xor .u32 n (c % 4294967296)))
def crcStepN : Nat → Int → Int
  | 0, n => n
  | k + 1, n => crcStep (crcStepN k n)
def crcAll (n : Int) (l : List Int) : Nat → Int
  | 0 => n
  | k + 1 => crcByte (crcAll n l k) (l[k]?.getD 0)
theorem and15 (n : Int) : 0 ≤ Go.bits .and .u32 n 15 ∧ Go.bits .and .u32 n 15 < 16 := by
  obtain ⟨m, h, hm⟩ := and_const n 15 (by decide)
  rw [show ((15 : Nat) : Int) = 15 from rfl] at h
  omega
theorem tabAt_get (i : Int) (h0 : 0 ≤ i) (h1 : i < 16) : (tabAt 16)[i.toNat]? = some (.int .u32 (halfN 4 i)) := by
  obtain ⟨k, rfl⟩ := Int.eq_ofNat_of_zero_le h0
  rw [Int.toNat_natCast]
  have hk : k < 16 := by omega
  simp [tabAt, hk]
def crc_More.f (a0 : Int) (l1 : List Int) : Option Int := some (Go.bits .xor .u32 IntKind.u32.max (crcAll (Go.bits .xor .u32 IntKind.u32.max a0) l1 l1.length))
set_option maxRecDepth 100000 in
set_option maxHeartbeats 4000000 in
theorem crc_More.calls (a0 : Int) (A1 : Option Addr) (c1 : Nat) (l1 : List Int) (r : Int) (w : World) (hr1 : Kd.C (Kd.int .u8) w A1 l1.length l1) (hc1 : l1.length ≤ c1) (h : crc_More.f a0 l1 = some r) :
    Calls Try.prog 42 #[.int .u32 a0, .slice A1 l1.length c1] w fun e w' => e = .returned (.int .u32 r) ∧ Below w.heap.size w w' := by
  have HA := Hp.start w
  have hm := Kd.C_max hr1
  injection h with h
  subst h
  go_enter Try.func42, Try.ntmps42
  have hs : IntKind.u32.signed = false := rfl
  go_wp2_with (first | ((with_reducible refine is_store _ _ _ ?_); refine u_over HA (by exact rfl) (by exact rfl) (by (repeat (first | exact PickL.here | apply PickL.next))) (by exact rfl) (tabAt_size 16) (by rw [tabAt_size]; rfl) (tabAt_one 16) ?_; clear HA; intro wn HA) | ((with_reducible refine g_go ?_ ?_); exact rfl) | ((with_reducible refine is_load _ _ ?_); refine u_load HA (by exact rfl) (by (repeat (first | exact MemL.here | refine MemL.next ?_))) (by exact rfl) (by exact rfl) ?_) | ((with_reducible refine is_load _ _ ?_); refine u_seg HA (by exact rfl) (by (repeat (first | exact MemL.here | refine MemL.next ?_))) (by exact rfl) (by (repeat (first | exact SegL.done | apply SegL.take | apply SegL.skip))) ?_) | ((with_reducible refine is_store _ _ _ ?_); (first | (refine u_store1 HA (by exact rfl) (by exact rfl) (by exact rfl) (by (repeat (first | exact MemL.here | refine MemL.next ?_))) (by (repeat (first | exact SplL.done | (apply SplL.put; exact rfl) | apply SplL.skip))) (by (repeat (first | exact PickL.here | apply PickL.next))) (by exact rfl) ?_) | (refine u_storeS HA (by exact rfl) (by exact rfl) (by (repeat (first | exact MemL.here | refine MemL.next ?_))) (by (repeat (first | exact SplL.done | (apply SplL.put; exact rfl) | apply SplL.skip))) (by (repeat (first | exact PickL.here | apply PickL.next))) (by exact rfl) (by exact rfl) ?_)); clear HA; intro wn HA) | ((with_reducible refine u_new HA ?_); clear HA; intro gn wn hg HA; (try rw [← hg]); clear hg) | (go_at_call 73; (with_reducible refine (crc_table.calls _).mono ?_); rintro e wn ⟨rfl, hb⟩; have HA1 := HA.call hb; clear HA hb; have HA := HA1; clear HA1))
  go_loopw [14, 6] (fun v14 v6 wr => ∃ k : Nat, k ≤ l1.length ∧ v14 = .int .i64 k ∧ v6 = .int .u32 (crcAll (Go.bits .xor .u32 IntKind.u32.max a0) l1 k) ∧ Hp w.heap.size (fun _ => False) w wr [⟨gn, tabAt 16, 97⟩]) (fun v14 _ _ => l1.length - (intOf v14).toNat)
  case atStart => exact ⟨0, by omega, rfl, rfl, HA⟩
  case round =>
    clear HA
    obtain ⟨k, hk, rfl, rfl, HA⟩ := hrel
    by_cases hlt : k < l1.length
    · have e1 : decide (k < l1.length) = true := by simpa using hlt
      obtain ⟨ad, rfl, hrd⟩ := C_int hr1 k hlt
      have hcell := HA.was hrd
      go_wp2_with (first | ((with_reducible refine g_go ?_ ?_); exact rfl) | ((with_reducible refine is_load _ _ ?_); refine u_load HA (by exact rfl) (by (repeat (first | exact MemL.here | refine MemL.next ?_))) (by exact rfl) (by exact rfl) ?_) | ((with_reducible refine is_load _ _ ?_); refine u_seg HA (by exact rfl) (by (repeat (first | exact MemL.here | refine MemL.next ?_))) (by exact rfl) (by (repeat (first | exact SegL.done | apply SegL.take | apply SegL.skip))) ?_) | ((with_reducible refine is_store _ _ _ ?_); (first | (refine u_store1 HA (by exact rfl) (by exact rfl) (by exact rfl) (by (repeat (first | exact MemL.here | refine MemL.next ?_))) (by (repeat (first | exact SplL.done | (apply SplL.put; exact rfl) | apply SplL.skip))) (by (repeat (first | exact PickL.here | apply PickL.next))) (by exact rfl) ?_) | (refine u_storeS HA (by exact rfl) (by exact rfl) (by (repeat (first | exact MemL.here | refine MemL.next ?_))) (by (repeat (first | exact SplL.done | (apply SplL.put; exact rfl) | apply SplL.skip))) (by (repeat (first | exact PickL.here | apply PickL.next))) (by exact rfl) (by exact rfl) ?_)); clear HA; intro wn HA) | ((with_reducible refine u_new HA ?_); clear HA; intro gn wn hg HA; (try rw [← hg]); clear hg) | ((with_reducible refine is_load _ _ ?_); refine u_cell (by exact rfl) (by exact rfl) hcell ?_))
      have hby : crcAll (Go.bits .xor .u32 IntKind.u32.max a0) l1 (k + 1) = crcStepN 2 (Go.bits .xor .u32 (crcAll (Go.bits .xor .u32 IntKind.u32.max a0) l1 k) (l1[k] % 4294967296)) := by
        show crcByte _ (l1[k]?.getD 0) = _
        rw [List.getElem?_eq_getElem hlt]
        rfl
      have HBY := Lib.hid hby
      clear hby
      generalize Go.bits .xor .u32 (crcAll (Go.bits .xor .u32 IntKind.u32.max a0) l1 k) (l1[k] % 4294967296) = n0 at HBY ⊢
      go_loopw [22, 6] (fun v22 v6 wr => ∃ j : Nat, j ≤ 2 ∧ v22 = .int .i64 j ∧ v6 = .int .u32 (crcStepN j n0) ∧ Hp w.heap.size (fun _ => False) w wr [⟨gn, tabAt 16, 97⟩]) (fun v22 _ _ => 2 - (intOf v22).toNat)
      case atStart => exact ⟨0, by omega, rfl, rfl, HA⟩
      case round =>
        clear HA
        obtain ⟨j, hj, rfl, rfl, HA⟩ := hrel
        by_cases hlj : j < 2
        · have e2 : decide ((j : Int) < 2) = true := by simp; omega
          have hjI : (j : Int) < 2 := by omega
          obtain ⟨ha0, ha1⟩ := and15 (crcStepN j n0)
          have htab := tabAt_get _ ha0 ha1
          go_wp2_with (first | ((with_reducible refine g_go ?_ ?_); exact rfl) | ((with_reducible refine is_load _ _ ?_); refine u_load HA (by exact rfl) (by (repeat (first | exact MemL.here | refine MemL.next ?_))) (by exact rfl) (by exact rfl) ?_) | ((with_reducible refine is_load _ _ ?_); refine u_seg HA (by exact rfl) (by (repeat (first | exact MemL.here | refine MemL.next ?_))) (by exact rfl) (by (repeat (first | exact SegL.done | apply SegL.take | apply SegL.skip))) ?_) | ((with_reducible refine is_store _ _ _ ?_); (first | (refine u_store1 HA (by exact rfl) (by exact rfl) (by exact rfl) (by (repeat (first | exact MemL.here | refine MemL.next ?_))) (by (repeat (first | exact SplL.done | (apply SplL.put; exact rfl) | apply SplL.skip))) (by (repeat (first | exact PickL.here | apply PickL.next))) (by exact rfl) ?_) | (refine u_storeS HA (by exact rfl) (by exact rfl) (by (repeat (first | exact MemL.here | refine MemL.next ?_))) (by (repeat (first | exact SplL.done | (apply SplL.put; exact rfl) | apply SplL.skip))) (by (repeat (first | exact PickL.here | apply PickL.next))) (by exact rfl) (by exact rfl) ?_)); clear HA; intro wn HA) | ((with_reducible refine u_new HA ?_); clear HA; intro gn wn hg HA; (try rw [← hg]); clear hg) | ((with_reducible refine is_load _ _ ?_); refine u_loadAt HA (by exact rfl) (by (repeat (first | exact MemL.here | refine MemL.next ?_))) (by exact rfl) htab ?_))
          go_roundw
          case rel => exact ⟨j + 1, by omega, by go_num, rfl, HA⟩
          case measure => simp [intOf]; omega
        · obtain rfl : j = 2 := by omega
          have e2 : decide (((2 : Nat) : Int) < 2) = false := by simp
          go_wp2_with (first | ((with_reducible refine g_go ?_ ?_); exact rfl) | ((with_reducible refine is_load _ _ ?_); refine u_load HA (by exact rfl) (by (repeat (first | exact MemL.here | refine MemL.next ?_))) (by exact rfl) (by exact rfl) ?_) | ((with_reducible refine is_load _ _ ?_); refine u_seg HA (by exact rfl) (by (repeat (first | exact MemL.here | refine MemL.next ?_))) (by exact rfl) (by (repeat (first | exact SegL.done | apply SegL.take | apply SegL.skip))) ?_) | ((with_reducible refine is_store _ _ _ ?_); (first | (refine u_store1 HA (by exact rfl) (by exact rfl) (by exact rfl) (by (repeat (first | exact MemL.here | refine MemL.next ?_))) (by (repeat (first | exact SplL.done | (apply SplL.put; exact rfl) | apply SplL.skip))) (by (repeat (first | exact PickL.here | apply PickL.next))) (by exact rfl) ?_) | (refine u_storeS HA (by exact rfl) (by exact rfl) (by (repeat (first | exact MemL.here | refine MemL.next ?_))) (by (repeat (first | exact SplL.done | (apply SplL.put; exact rfl) | apply SplL.skip))) (by (repeat (first | exact PickL.here | apply PickL.next))) (by exact rfl) (by exact rfl) ?_)); clear HA; intro wn HA) | ((with_reducible refine u_new HA ?_); clear HA; intro gn wn hg HA; (try rw [← hg]); clear hg))
          go_roundw
          case rel => exact ⟨k + 1, by omega, by go_num, by rw [HBY.out], HA⟩
          case measure => simp [intOf]; omega
    · obtain rfl : k = l1.length := by omega
      have e1 : decide (l1.length < l1.length) = false := by simp
      go_wp2_with (first | ((with_reducible refine g_go ?_ ?_); exact rfl) | ((with_reducible refine is_load _ _ ?_); refine u_load HA (by exact rfl) (by (repeat (first | exact MemL.here | refine MemL.next ?_))) (by exact rfl) (by exact rfl) ?_) | ((with_reducible refine is_load _ _ ?_); refine u_seg HA (by exact rfl) (by (repeat (first | exact MemL.here | refine MemL.next ?_))) (by exact rfl) (by (repeat (first | exact SegL.done | apply SegL.take | apply SegL.skip))) ?_) | ((with_reducible refine is_store _ _ _ ?_); (first | (refine u_store1 HA (by exact rfl) (by exact rfl) (by exact rfl) (by (repeat (first | exact MemL.here | refine MemL.next ?_))) (by (repeat (first | exact SplL.done | (apply SplL.put; exact rfl) | apply SplL.skip))) (by (repeat (first | exact PickL.here | apply PickL.next))) (by exact rfl) ?_) | (refine u_storeS HA (by exact rfl) (by exact rfl) (by (repeat (first | exact MemL.here | refine MemL.next ?_))) (by (repeat (first | exact SplL.done | (apply SplL.put; exact rfl) | apply SplL.skip))) (by (repeat (first | exact PickL.here | apply PickL.next))) (by exact rfl) (by exact rfl) ?_)); clear HA; intro wn HA) | ((with_reducible refine u_new HA ?_); clear HA; intro gn wn hg HA; (try rw [← hg]); clear hg))
      go_ret
      exact ⟨rfl, HA.below⟩
end

/-! ### crc_Sum: function 40 -/
def crc_Sum.f (l0 : List Int) : Option (Int) := (crc_More.f 0 l0).bind fun t101 => (some t101)
set_option maxHeartbeats 8000000 in
set_option maxRecDepth 100000 in
theorem crc_Sum.calls (A0 : Option Addr) (c0 : Nat) (l0 : List Int) (r : Int) (w : World) (hr0 : Kd.C (Kd.int .u8) w A0 l0.length l0) (hc0 : l0.length ≤ c0) (h : crc_Sum.f l0 = some r) :
    Calls Try.prog 40 #[.slice A0 l0.length c0] w fun e w' => e = .returned (.int .u32 r) ∧ Below w.heap.size w w' := by
  have HR0 := Aside0.mk hr0
  have HC0 := Aside0.mk hc0
  clear hr0 hc0
  have HB := Aside0.mk (Below.refl w.heap.size w)
  have H : ((crc_More.f 0 l0).bind fun t101 => (some t101)) = some r := h
  clear h
  replace H := Option.bind_eq_some_iff.mp H
  obtain ⟨t101, A20, H⟩ := H
  replace H : (some t101) = some r := H
  have A2 := Aside0.mk A20
  clear A20
  obtain rfl := Option.some.inj H
  go_enter Try.func40, Try.ntmps40
  go_wp2_with (first | ((with_reducible refine gate_callee (f := 42) rfl ?_); refine goesL_ (some 4) rfl rfl Try.func42 (by kernel_rfl) rfl #[.int .u32 0, .slice A0 l0.length c0] rfl (by (try simp only [List.map_toArray, List.map_cons, List.map_nil]); first | done | rfl | (simp only [List.length_drop, List.length_take]; rfl)) ?_; (with_reducible refine (crc_More.calls 0 _ _ l0 t101 _ ?side1 ?side2 A2.out).mono ?_); (case side1 => repeat (first | exact HR0.out | (with_reducible refine Kd.C_alloc ?_ _) | (with_reducible refine Kd.C_drewN ?_ _) | (with_reducible refine Kd.C_drew ?_))); (case side2 => exact HC0.out); rintro e w3 ⟨rfl, hb⟩; refine ⟨_, rfl, ?_⟩; have n0_ := Aside0.mk (below_step (by repeat (first | (with_reducible first | exact HB.out | apply below_alloc | apply pw_below_drewN | apply below_drew1) | exact HB.out)) hb); clear HB; have HB := n0_; clear n0_; (try clear hb); (try clear hb2); (try clear hk); (try clear hi)))
  go_ret
  exact ⟨by first | rfl | (simp [errW_none, errW_some] <;> rfl) | (simp [*, errW_none, errW_some] <;> rfl), by repeat (first | (with_reducible first | exact HB.out | apply below_alloc | apply pw_below_drewN | apply below_drew1) | exact HB.out)⟩

/-! ### octet_Put: function 16 -/
mutual
def octet_Put.j0 : Nat → Int → List Int → List Int → Bool → Option (List Int)
  | 0, _, _, _, _ => none
  | k + 1, x1, x2, x7, x19 => if x19 = true then (some x7) else (octet_Put.l0 k x1 x7 x2 (x2.length : Int) 0)
def octet_Put.l0 : Nat → Int → List Int → List Int → Int → Int → Option (List Int)
  | 0, _, _, _, _, _ => none
  | k + 1, x1, x7, x21, x22, x23 => if x23 < x22 then (if 0 ≤ x23 then (if x23 < (x21.length : Int) then (octet_Put.l1 k x1 x7 (rd x21 x23) x21 x22 x23 x1 0) else (none)) else (none)) else (some x7)
def octet_Put.l1 : Nat → Int → List Int → Int → List Int → Int → Int → Int → Int → Option (List Int)
  | 0, _, _, _, _, _, _, _, _ => none
  | k + 1, x1, x7, x9, x21, x22, x23, x27, x28 => if x28 < x27 then (if 0 ≤ (wrap64 (8 * x28)) then (if x7.length < 140737488355328 then (octet_Put.l1 k x1 (x7 ++ [(shr .u64 x9 (wrap64 (8 * x28))) % 256]) x9 x21 x22 x23 x27 (wrap64 (x28 + 1))) else (none)) else (none)) else (octet_Put.l0 k x1 x7 x21 x22 (wrap64 (x23 + 1)))
end
def octet_Put.f (k : Nat) (l0 : List Int) (a1 : Int) (l2 : List Int) : Option (List Int) := (some (([] : List Int) : List Int)).bind fun y102 => (if y102.length + l0.length < 140737488355328 then ((some (y102 ++ l0 : List Int)).bind fun y105 => (if a1 < 1 then (octet_Put.j0 k a1 l2 y105 true) else (octet_Put.j0 k a1 l2 y105 (decide (a1 > 8))))) else (none))
theorem octet_Put.mono_l : ∀ k, (∀ y0 y1 y2 y3, LeO (octet_Put.j0 k y0 y1 y2 y3) (octet_Put.j0 (k + 1) y0 y1 y2 y3)) ∧ (∀ y0 y1 y2 y3 y4, LeO (octet_Put.l0 k y0 y1 y2 y3 y4) (octet_Put.l0 (k + 1) y0 y1 y2 y3 y4)) ∧ (∀ y0 y1 y2 y3 y4 y5 y6 y7, LeO (octet_Put.l1 k y0 y1 y2 y3 y4 y5 y6 y7) (octet_Put.l1 (k + 1) y0 y1 y2 y3 y4 y5 y6 y7))
  | 0 => ⟨fun _ _ _ _ r h => by simp [octet_Put.j0] at h, fun _ _ _ _ _ r h => by simp [octet_Put.l0] at h, fun _ _ _ _ _ _ _ _ r h => by simp [octet_Put.l1] at h⟩
  | k + 1 => by
    obtain ⟨ih0, ih1, ih2⟩ := octet_Put.mono_l k
    refine ⟨?_, ?_, ?_⟩
    · intro y0 y1 y2 y3
      unfold octet_Put.j0
      repeat' first
      | (with_reducible exact ih0 _ _ _ _)
      | (with_reducible exact ih1 _ _ _ _ _)
      | (with_reducible exact ih2 _ _ _ _ _ _ _ _)
      | (with_reducible exact LeO.refl _)
      | (with_reducible exact LeO.none _)
      | (with_reducible refine LeO.ite ?_ ?_)
      | (with_reducible refine LeO.bind ?_ (fun _ => ?_))
      | exact ih0 _ _ _ _
      | exact ih1 _ _ _ _ _
      | exact ih2 _ _ _ _ _ _ _ _
      | exact LeO.none _
      | refine LeO.ite ?_ ?_
      | refine LeO.bind ?_ (fun _ => ?_)
    · intro y0 y1 y2 y3 y4
      unfold octet_Put.l0
      repeat' first
      | (with_reducible exact ih0 _ _ _ _)
      | (with_reducible exact ih1 _ _ _ _ _)
      | (with_reducible exact ih2 _ _ _ _ _ _ _ _)
      | (with_reducible exact LeO.refl _)
      | (with_reducible exact LeO.none _)
      | (with_reducible refine LeO.ite ?_ ?_)
      | (with_reducible refine LeO.bind ?_ (fun _ => ?_))
      | exact ih0 _ _ _ _
      | exact ih1 _ _ _ _ _
      | exact ih2 _ _ _ _ _ _ _ _
      | exact LeO.none _
      | refine LeO.ite ?_ ?_
      | refine LeO.bind ?_ (fun _ => ?_)
    · intro y0 y1 y2 y3 y4 y5 y6 y7
      unfold octet_Put.l1
      repeat' first
      | (with_reducible exact ih0 _ _ _ _)
      | (with_reducible exact ih1 _ _ _ _ _)
      | (with_reducible exact ih2 _ _ _ _ _ _ _ _)
      | (with_reducible exact LeO.refl _)
      | (with_reducible exact LeO.none _)
      | (with_reducible refine LeO.ite ?_ ?_)
      | (with_reducible refine LeO.bind ?_ (fun _ => ?_))
      | exact ih0 _ _ _ _
      | exact ih1 _ _ _ _ _
      | exact ih2 _ _ _ _ _ _ _ _
      | exact LeO.none _
      | refine LeO.ite ?_ ?_
      | refine LeO.bind ?_ (fun _ => ?_)
theorem octet_Put.mono : ∀ a0 a1 a2 k, LeO (octet_Put.f k a0 a1 a2) (octet_Put.f (k + 1) a0 a1 a2) := by
  intro a0 a1 a2 k
  obtain ⟨ih0, ih1, ih2⟩ := octet_Put.mono_l k
  unfold octet_Put.f
  repeat' first
      | (with_reducible exact ih0 _ _ _ _)
      | (with_reducible exact ih1 _ _ _ _ _)
      | (with_reducible exact ih2 _ _ _ _ _ _ _ _)
      | (with_reducible exact LeO.refl _)
      | (with_reducible exact LeO.none _)
      | (with_reducible refine LeO.ite ?_ ?_)
      | (with_reducible refine LeO.bind ?_ (fun _ => ?_))
      | exact ih0 _ _ _ _
      | exact ih1 _ _ _ _ _
      | exact ih2 _ _ _ _ _ _ _ _
      | exact LeO.none _
      | refine LeO.ite ?_ ?_
      | refine LeO.bind ?_ (fun _ => ?_)
set_option maxHeartbeats 8000000 in
set_option maxRecDepth 100000 in
theorem octet_Put.calls (k : Nat) (A0 : Option Addr) (c0 : Nat) (l0 : List Int) (a1 : Int) (A2 : Option Addr) (c2 : Nat) (l2 : List Int) (r : List Int) (w : World) (hr0 : Kd.C (Kd.int .u8) w A0 l0.length l0) (hc0 : l0.length ≤ c0) (hr2 : Kd.C (Kd.int .u64) w A2 l2.length l2) (hc2 : l2.length ≤ c2) (h : octet_Put.f k l0 a1 l2 = some r) :
    Calls Try.prog 16 #[.slice A0 l0.length c0, .int .i64 a1, .slice A2 l2.length c2] w fun e w' => ∃ v0_ : Value, e = .returned (v0_) ∧ Kd.R (Kd.int .u8) 5 w' w.heap.size (fun _ => True) v0_ r ∧ Below w.heap.size w w' := by
  have HR0 := Aside0.mk hr0
  have HC0 := Aside0.mk hc0
  clear hr0 hc0
  have HR2 := Aside0.mk hr2
  have HC2 := Aside0.mk hc2
  clear hr2 hc2
  have HB := Aside0.mk (Below.refl w.heap.size w)
  have H : ((some (([] : List Int) : List Int)).bind fun y102 => (if y102.length + l0.length < 140737488355328 then ((some (y102 ++ l0 : List Int)).bind fun y105 => (if a1 < 1 then (octet_Put.j0 k a1 l2 y105 true) else (octet_Put.j0 k a1 l2 y105 (decide (a1 > 8))))) else (none))) = some r := h
  clear h
  obtain ⟨y102, hy102⟩ : ∃ y_ : List Int, y_ = (([] : List Int)) := ⟨_, rfl⟩
  replace H : (if y102.length + l0.length < 140737488355328 then ((some (y102 ++ l0 : List Int)).bind fun y105 => (if a1 < 1 then (octet_Put.j0 k a1 l2 y105 true) else (octet_Put.j0 k a1 l2 y105 (decide (a1 > 8))))) else (none)) = some r := by first | (rw [hy102]; with_reducible exact H) | (have H2_ := (Option.bind_some _ _).symm.trans H; rw [hy102]; with_reducible exact H2_) | (have H2_ := (Option.bind_some _ _).symm.trans H; with_reducible exact H2_) | with_reducible exact H | (rw [hy102]; exact H) | exact H
  have Ny102 := Aside0.mk hy102
  clear hy102
  by_cases c4 : y102.length + l0.length < 140737488355328
  · rw [if_pos c4] at H
    have LMc4 := Aside0.mk c4
    clear c4
    obtain ⟨y105, hy105⟩ : ∃ y_ : List Int, y_ = (y102 ++ l0) := ⟨_, rfl⟩
    replace H : (if a1 < 1 then (octet_Put.j0 k a1 l2 y105 true) else (octet_Put.j0 k a1 l2 y105 (decide (a1 > 8)))) = some r := by first | (rw [hy105]; with_reducible exact H) | (have H2_ := (Option.bind_some _ _).symm.trans H; rw [hy105]; with_reducible exact H2_) | (have H2_ := (Option.bind_some _ _).symm.trans H; with_reducible exact H2_) | with_reducible exact H | (rw [hy105]; exact H) | exact H
    have Ny105 := Aside0.mk hy105
    clear hy105
    have HC5 := Aside0.mk H
    clear H
    go_enter Try.func16, Try.ntmps16
    go_upto_region 2 with (first | ((with_reducible refine gate_dst (N := 11) rfl ?_); refine Kd.R_lit (Kd.int .u8) _ 5 ?hg (N := 11) ?hd (xs := ([] : List Int)) (inner := []) (ok := fun _ => True) (okp := fun _ => True) ?hr ?hp (fun _ hk => hk) trivial (Below.refl _ _) (Nat.le_refl _) (by simp) ?_; (case hd => rfl); (case hg => rfl); (case hr => first | (go_simp; done) | (go_simp; rfl)); (case hp => exact (Reps.none _ _)); intro v103 w6 ho7 hb hg_ hnew_; clear hg_ hnew_; (first | rw [← Ny102.out] at ho7 | (simp only [Int.reduceToNat] at ho7; rw [← Ny102.out] at ho7)); have n0_ := Aside0.mk (Kd.R_lower ho7 (below_size (by repeat (first | (with_reducible first | exact HB.out | apply below_alloc | apply pw_below_drewN | apply below_drew1) | exact HB.out)))); have n1_ := Aside0.mk (below_step (by repeat (first | (with_reducible first | exact HB.out | apply below_alloc | apply pw_below_drewN | apply below_drew1) | exact HB.out)) hb); clear HB; have HO104 := n0_; have HB := n1_; clear n0_ n1_; clear hb ho7) | ((with_reducible refine gate_builtin (b := .append) (xs := #[.tmp 11, .tmp 12]) rfl ?_); at_builtin; refine Kd.R_append_rows (Kd.int .u8) (w0 := w) w.heap.size rfl (.tmp 11) (.tmp 12) 22 5 (.int .u8 0) 1 rfl Try.underlying22 info5 rfl (by decide) (by omega) v103 y102 l0 _ _ _ (fun _ => True) (fun _ => False) rfl rfl ?aO ?aR (fun _ _ h => h) (fun _ h => h.elim) ?aF ?aB ?aS ?aL ?_; (case aR => repeat (first | exact (Kd.C_below HR0.out HB.out) | (with_reducible refine Kd.C_alloc ?_ _) | (with_reducible refine Kd.C_drewN ?_ _) | (with_reducible refine Kd.C_drew ?_))); (case aB => exact (by repeat (first | (with_reducible first | exact HB.out | apply below_alloc | apply pw_below_drewN | apply below_drew1) | exact HB.out))); (case aF => exact (fun _ _ => trivial)); (case aO => exact (by (with_reducible repeat (first | apply Kd.R_alloc | apply Kd.R_drewN | apply Kd.R_drew)); exact HO104.out)); (case aS => exact (below_size (by repeat (first | (with_reducible first | exact HB.out | apply below_alloc | apply pw_below_drewN | apply below_drew1) | exact HB.out)))); (case aL => have := LMc4.out; omega); intro v106 w8 ho hb hg hat; rw [← Ny105.out] at ho; have n0_ := Aside0.mk (hb); have n1_ := Aside0.mk (ho); clear HB; clear HO104; have HB := n0_; have HO107 := n1_; clear n0_ n1_; clear ho hb hg hat))
    (try simp only [Act.put, List.setIfInBounds_toArray, List.set_cons_zero, List.set_cons_succ])
    go_cut [19] (fun v19 wc => ∃ (kq : Nat) (x19_4 : Bool), v19 = .bool x19_4 ∧ Aside0 (octet_Put.j0 kq a1 l2 y105 x19_4 = some r) ∧ Aside0 (kq ≤ k) ∧ Aside0 (Kd.R (Kd.int .u8) 5 wc w.heap.size (fun _ => True) v106 y105) ∧ Aside0 (Below w.heap.size w wc))
    case first =>
      have H := HC5.out
      clear HC5
      by_cases c9 : a1 < 1
      · rw [if_pos c9] at H
        have c9b0 : decide (a1 < 1) = true := decide_eq_true c9
        clear c9
        (first | rw [c9b0] | (simp only [i64_w, i32_w]; rw [c9b0]) | skip)
        have H' := Aside0.mk H
        clear H
        go_wp2
        go_meet
        case rel => exact ⟨_, (true), (by first | rfl | (simp; done) | (simp [*]; done)), H', ⟨by first | omega | exact Nat.le_refl _⟩, ⟨by (with_reducible repeat (first | apply Kd.R_alloc | apply Kd.R_drewN | apply Kd.R_drew)); exact HO107.out⟩, ⟨by repeat (first | (with_reducible first | exact HB.out | apply below_alloc | apply pw_below_drewN | apply below_drew1) | exact HB.out)⟩⟩
      · rw [if_neg c9] at H
        have c9b0 : decide (a1 < 1) = false := decide_eq_false c9
        clear c9
        (first | rw [c9b0] | (simp only [i64_w, i32_w]; rw [c9b0]) | skip)
        have H' := Aside0.mk H
        clear H
        go_wp2
        go_meet
        case rel => exact ⟨_, (decide (a1 > 8)), (by first | rfl | (simp; done) | (simp [*]; done)), H', ⟨by first | omega | exact Nat.le_refl _⟩, ⟨by (with_reducible repeat (first | apply Kd.R_alloc | apply Kd.R_drewN | apply Kd.R_drew)); exact HO107.out⟩, ⟨by repeat (first | (with_reducible first | exact HB.out | apply below_alloc | apply pw_below_drewN | apply below_drew1) | exact HB.out)⟩⟩
    case rest =>
      clear HC5
      try clear c1
      try clear c2
      try clear p2
      try clear c4
      try clear c9
      try clear c9b0
      obtain ⟨kq, x19_4, rfl, HA, HJ4, HO_7, HB⟩ := hcut
      cases kq with
      | zero => exact absurd HA.out (by simp [octet_Put.j0])
      | succ kj4 =>
        have H := HA.out
        clear HA
        simp only [octet_Put.j0] at H
        by_cases c10 : x19_4 = true
        · subst c10
          have H1 : (some y105) = some r := by rw [if_pos rfl] at H; exact H
          clear H
          have H := H1
          clear H1
          obtain rfl := Option.some.inj H
          go_wp2
          go_ret
          exact ⟨_, by first | rfl | (simp [errW_none, errW_some] <;> rfl) | (simp [*, errW_none, errW_some] <;> rfl), by (with_reducible repeat (first | apply Kd.R_alloc | apply Kd.R_drewN | apply Kd.R_drew)); exact HO_7.out, by repeat (first | (with_reducible first | exact HB.out | apply below_alloc | apply pw_below_drewN | apply below_drew1) | exact HB.out)⟩
        · replace c10 := Bool.eq_false_iff.mpr c10
          subst c10
          have H1 : (octet_Put.l0 kj4 a1 y105 l2 (l2.length : Int) 0) = some r := by rw [if_neg (show ¬ (false = true) by decide)] at H; exact H
          clear H
          have H := H1
          clear H1
          have H' := Aside0.mk H
          clear H
          go_wp2
          go_loopg [7, 23] kj4 (fun kq v7 v23 w' => ∃ (x7_2 : List Int) (x23_2 : Int), v23 = .int .i64 x23_2 ∧ Aside0 (octet_Put.l0 kq a1 x7_2 l2 (l2.length : Int) x23_2 = some r) ∧ Aside0 (kq ≤ kj4) ∧ Aside0 (Kd.R (Kd.int .u8) 5 w' w.heap.size (fun _ => True) v7 x7_2) ∧ Aside0 (Below w.heap.size w w'))
          case atStart => exact ⟨(y105), (0), (by first | rfl | (simp; done) | (simp [*]; done)), H', ⟨Nat.le_refl _⟩, ⟨by (with_reducible repeat (first | apply Kd.R_alloc | apply Kd.R_drewN | apply Kd.R_drew)); exact HO_7.out⟩, ⟨by repeat (first | (with_reducible first | exact HB.out | apply below_alloc | apply pw_below_drewN | apply below_drew1) | exact HB.out)⟩⟩
          case round =>
            clear H'
            try clear c1
            try clear c2
            try clear p2
            try clear c4
            try clear c9
            try clear c9b0
            try clear c10
            try clear p2
            obtain ⟨x7_2, x23_2, rfl, HA, HK2, HO_7, HB⟩ := hrel
            cases gk with
            | zero => exact absurd HA.out (by simp [octet_Put.l0])
            | succ k2 =>
              have H := HA.out
              clear HA
              simp only [octet_Put.l0] at H
              by_cases c11 : x23_2 < (l2.length : Int)
              · rw [if_pos c11] at H
                have c11b0 : decide (x23_2 < (l2.length : Int)) = true := decide_eq_true c11
                clear c11
                by_cases c12 : 0 ≤ x23_2
                · rw [if_pos c12] at H
                  have c12b0 : decide (0 ≤ x23_2) = true := decide_eq_true c12
                  clear c12
                  by_cases c13 : x23_2 < (l2.length : Int)
                  · rw [if_pos c13] at H
                    have c13b0 : decide (x23_2 < (l2.length : Int)) = true := decide_eq_true c13
                    clear c13
                    have H' := Aside0.mk H
                    clear H
                    have p108 : 0 ≤ (x23_2 : Int) := of_decide_eq_true (by first | (with_reducible assumption) | assumption)
                    have q108 : x23_2 < (l2.length : Int) := of_decide_eq_true (by first | (with_reducible assumption) | assumption)
                    obtain ⟨ad108, e108, hx108_0⟩ := Kd.at_int HR2.out x23_2 p108 q108
                    cases e108
                    replace hx108_0 := (HB.out.cell (World.block_lt_of_cell? w _ hx108_0)).trans hx108_0
                    replace p108 := eq_true p108
                    replace q108 := eq_true q108
                    go_wp2
                    go_loopg [7, 28] k2 (fun kq v7 v28 w' => ∃ (x7_3 : List Int) (x28_3 : Int), v28 = .int .i64 x28_3 ∧ Aside0 (octet_Put.l1 kq a1 x7_3 (rd l2 x23_2) l2 (l2.length : Int) x23_2 a1 x28_3 = some r) ∧ Aside0 (kq ≤ k2) ∧ Aside0 (Kd.R (Kd.int .u8) 5 w' w.heap.size (fun _ => True) v7 x7_3) ∧ Aside0 (Below w.heap.size w w'))
                    case atStart => exact ⟨(x7_2), (0), (by first | rfl | (simp; done) | (simp [*]; done)), H', ⟨Nat.le_refl _⟩, ⟨by (with_reducible repeat (first | apply Kd.R_alloc | apply Kd.R_drewN | apply Kd.R_drew)); exact HO_7.out⟩, ⟨by repeat (first | (with_reducible first | exact HB.out | apply below_alloc | apply pw_below_drewN | apply below_drew1) | exact HB.out)⟩⟩
                    case round =>
                      clear H'
                      try clear c1
                      try clear p1
                      try clear q1
                      try clear hx1
                      try clear c2
                      try clear p2
                      try clear c4
                      try clear c9
                      try clear c9b0
                      try clear c10
                      try clear p10
                      try clear q10
                      try clear hx10
                      try clear c11
                      try clear c11b0
                      try clear c12
                      try clear c12b0
                      try clear c13
                      try clear c13b0
                      try clear hx108_0
                      try clear p108
                      try clear p2
                      try clear q108
                      obtain ⟨x7_3, x28_3, rfl, HA, HK3, HO_7, HB⟩ := hrel
                      cases gk with
                      | zero => exact absurd HA.out (by simp [octet_Put.l1])
                      | succ k3 =>
                        have H := HA.out
                        clear HA
                        simp only [octet_Put.l1] at H
                        by_cases c14 : x28_3 < a1
                        · rw [if_pos c14] at H
                          have c14b0 : decide (x28_3 < a1) = true := decide_eq_true c14
                          clear c14
                          obtain ⟨ji15, hji15⟩ : ∃ j_ : Int, (wrap64 (8 * x28_3)) = j_ := ⟨_, rfl⟩
                          replace H : (if 0 ≤ (ji15) then (if x7_3.length < 140737488355328 then (octet_Put.l1 k3 a1 (x7_3 ++ [(shr .u64 (rd l2 x23_2) (ji15)) % 256]) (rd l2 x23_2) l2 (l2.length : Int) x23_2 a1 (wrap64 (x28_3 + 1))) else (none)) else (none)) = some r := by first | (rw [hji15] at H; exact H) | (simp only [hji15] at H ⊢; exact H)
                          have hji15w : (IntKind.i64.wrap (8 * x28_3)) = ji15 := (i64_w _).trans hji15
                          by_cases c16 : 0 ≤ (ji15)
                          · rw [if_pos c16] at H
                            have c16b0 := eq_true c16
                            have c16b1 : decide (0 ≤ (ji15)) = true := decide_eq_true c16
                            clear c16
                            obtain ⟨ji17, hji17⟩ : ∃ j_ : Int, (shr .u64 (rd l2 x23_2) (ji15)) = j_ := ⟨_, rfl⟩
                            replace H : (if x7_3.length < 140737488355328 then (octet_Put.l1 k3 a1 (x7_3 ++ [(ji17) % 256]) (rd l2 x23_2) l2 (l2.length : Int) x23_2 a1 (wrap64 (x28_3 + 1))) else (none)) = some r := by first | (rw [hji17] at H; exact H) | (simp only [hji17] at H ⊢; exact H)
                            have hji17_ : ((rd l2 x23_2) / 2 ^ min (ji15).toNat 64) = ji17 := hji17
                            have hji17z : (ji15) ≤ 64 → ((rd l2 x23_2) / 2 ^ (ji15).toNat) = ji17 := shr_small hji17
                            by_cases c18 : x7_3.length < 140737488355328
                            · rw [if_pos c18] at H
                              have LMc18 := Aside0.mk c18
                              clear c18
                              obtain ⟨y109, hy109⟩ : ∃ y_ : List Int, y_ = (x7_3 ++ [(ji17) % 256]) := ⟨_, rfl⟩
                              replace H : (octet_Put.l1 k3 a1 y109 (rd l2 x23_2) l2 (l2.length : Int) x23_2 a1 (wrap64 (x28_3 + 1))) = some r := by first | (rw [hy109]; with_reducible exact H) | (have H2_ := (Option.bind_some _ _).symm.trans H; rw [hy109]; with_reducible exact H2_) | (have H2_ := (Option.bind_some _ _).symm.trans H; with_reducible exact H2_) | with_reducible exact H | (rw [hy109]; exact H) | exact H
                              have Ny109 := Aside0.mk hy109
                              clear hy109
                              have H' := Aside0.mk H
                              clear H
                              go_wp2_with (first | ((with_reducible refine gate_builtin (b := .append) (xs := #[.tmp 31, .tmp 37]) rfl ?_); at_builtin; refine Kd.R_append (Kd.int .u8) (w0 := w) w.heap.size rfl (.tmp 31) (.tmp 37) 22 5 (.int .u8 0) 1 rfl Try.underlying22 info5 rfl (by decide) (by omega) u7 x7_3 ((ji17) % 256) [.int .u8 ((ji17) % 256)] (fun _ => True) (fun _ => False) rfl rfl ?aP (fun _ hk => hk.elim) ?aF ?aO ?aB ?aS ?aL ?_; (case aP => exact rfl); (case aB => exact (by repeat (first | (with_reducible first | exact HB.out | apply below_alloc | apply pw_below_drewN | apply below_drew1) | exact HB.out))); (case aF => exact (fun _ _ => trivial)); (case aO => exact (by (with_reducible repeat (first | apply Kd.R_alloc | apply Kd.R_drewN | apply Kd.R_drew)); exact HO_7.out)); (case aS => exact (below_size (by repeat (first | (with_reducible first | exact HB.out | apply below_alloc | apply pw_below_drewN | apply below_drew1) | exact HB.out)))); (case aL => have := LMc18.out; omega); intro v110 w19 ho hb hg hat; rw [← Ny109.out] at ho; have n0_ := Aside0.mk (hb); have n1_ := Aside0.mk (ho); clear HB; clear HO_7; have HB := n0_; have HO111 := n1_; clear n0_ n1_; clear ho hb hg hat))
                              go_roundg k3
                              case measure => have := HJ4.out; have := HK2.out; have := HK3.out; omega
                              case rel => exact ⟨(y109), (wrap64 (x28_3 + 1)), (by first | rfl | (simp; done) | (simp [*]; done)), H', ⟨by have := HJ4.out; have := HK2.out; have := HK3.out; omega⟩, ⟨by (with_reducible repeat (first | apply Kd.R_alloc | apply Kd.R_drewN | apply Kd.R_drew)); exact HO111.out⟩, ⟨by repeat (first | (with_reducible first | exact HB.out | apply below_alloc | apply pw_below_drewN | apply below_drew1) | exact HB.out)⟩⟩
                            · rw [if_neg c18] at H
                              exact absurd H (by simp)
                          · rw [if_neg c16] at H
                            exact absurd H (by simp)
                        · rw [if_neg c14] at H
                          have c14b0 : decide (x28_3 < a1) = false := decide_eq_false c14
                          clear c14
                          have H' := Aside0.mk H
                          clear H
                          go_wp2
                          go_roundg k3
                          case measure => have := HJ4.out; have := HK2.out; have := HK3.out; omega
                          case rel => exact ⟨(x7_3), (wrap64 (x23_2 + 1)), (by first | rfl | (simp; done) | (simp [*]; done)), H', ⟨by have := HJ4.out; have := HK2.out; have := HK3.out; omega⟩, ⟨by (with_reducible repeat (first | apply Kd.R_alloc | apply Kd.R_drewN | apply Kd.R_drew)); exact HO_7.out⟩, ⟨by repeat (first | (with_reducible first | exact HB.out | apply below_alloc | apply pw_below_drewN | apply below_drew1) | exact HB.out)⟩⟩
                  · rw [if_neg c13] at H
                    exact absurd H (by simp)
                · rw [if_neg c12] at H
                  exact absurd H (by simp)
              · rw [if_neg c11] at H
                have c11b0 : decide (x23_2 < (l2.length : Int)) = false := decide_eq_false c11
                clear c11
                obtain rfl := Option.some.inj H
                go_wp2
                go_ret
                exact ⟨_, by first | rfl | (simp [errW_none, errW_some] <;> rfl) | (simp [*, errW_none, errW_some] <;> rfl), by (with_reducible repeat (first | apply Kd.R_alloc | apply Kd.R_drewN | apply Kd.R_drew)); exact HO_7.out, by repeat (first | (with_reducible first | exact HB.out | apply below_alloc | apply pw_below_drewN | apply below_drew1) | exact HB.out)⟩
  · rw [if_neg c4] at H
    exact absurd H (by simp)

/-! ### crc_Seal: function 44 -/
def crc_Seal.f (k : Nat) (l0 : List Int) : Option (List Int) := (crc_Sum.f l0).bind fun t112 => ((octet_Put.f k l0 4 (([IntKind.u64.wrap (t112)] : List Int))).bind fun t116 => (some t116))
theorem crc_Seal.mono : ∀ a0 k, LeO (crc_Seal.f k a0) (crc_Seal.f (k + 1) a0) := by
  intro a0 k
  unfold crc_Seal.f
  repeat' first
      | (with_reducible exact octet_Put.mono _ _ _ _)
      | (with_reducible exact LeO.refl _)
      | (with_reducible exact LeO.none _)
      | (with_reducible refine LeO.ite ?_ ?_)
      | (with_reducible refine LeO.bind ?_ (fun _ => ?_))
      | exact octet_Put.mono _ _ _ _
      | exact LeO.none _
      | refine LeO.ite ?_ ?_
      | refine LeO.bind ?_ (fun _ => ?_)
set_option maxHeartbeats 8000000 in
set_option maxRecDepth 100000 in
theorem crc_Seal.calls (k : Nat) (A0 : Option Addr) (c0 : Nat) (l0 : List Int) (r : List Int) (w : World) (hr0 : Kd.C (Kd.int .u8) w A0 l0.length l0) (hc0 : l0.length ≤ c0) (h : crc_Seal.f k l0 = some r) :
    Calls Try.prog 44 #[.slice A0 l0.length c0] w fun e w' => ∃ v0_ : Value, e = .returned (v0_) ∧ Kd.R (Kd.int .u8) 5 w' w.heap.size (fun _ => True) v0_ r ∧ Below w.heap.size w w' := by
  have HR0 := Aside0.mk hr0
  have HC0 := Aside0.mk hc0
  clear hr0 hc0
  have HB := Aside0.mk (Below.refl w.heap.size w)
  have H : ((crc_Sum.f l0).bind fun t112 => ((octet_Put.f k l0 4 (([IntKind.u64.wrap (t112)] : List Int))).bind fun t116 => (some t116))) = some r := h
  clear h
  replace H := Option.bind_eq_some_iff.mp H
  obtain ⟨t112, A20, H⟩ := H
  replace H : ((octet_Put.f k l0 4 (([IntKind.u64.wrap (t112)] : List Int))).bind fun t116 => (some t116)) = some r := H
  have A2 := Aside0.mk A20
  clear A20
  obtain ⟨y113, hy113⟩ : ∃ y_ : List Int, y_ = (([IntKind.u64.wrap (t112)] : List Int)) := ⟨_, rfl⟩
  replace H : ((octet_Put.f k l0 4 y113).bind fun t116 => (some t116)) = some r := by first | (rw [hy113]; with_reducible exact H) | (have H2_ := (Option.bind_some _ _).symm.trans H; rw [hy113]; with_reducible exact H2_) | (have H2_ := (Option.bind_some _ _).symm.trans H; with_reducible exact H2_) | with_reducible exact H | (rw [hy113]; exact H) | exact H
  have Ny113 := Aside0.mk hy113
  clear hy113
  replace H := Option.bind_eq_some_iff.mp H
  obtain ⟨t116, A30, H⟩ := H
  replace H : (some t116) = some r := H
  have A3 := Aside0.mk A30
  clear A30
  obtain rfl := Option.some.inj H
  go_enter Try.func44, Try.ntmps44
  go_wp2_with (first | ((with_reducible refine gate_callee (f := 40) rfl ?_); refine goesL_ (some 5) rfl rfl Try.func40 (by kernel_rfl) rfl #[.slice A0 l0.length c0] rfl (by (try simp only [List.map_toArray, List.map_cons, List.map_nil]); first | done | rfl | (simp only [List.length_drop, List.length_take]; rfl)) ?_; (with_reducible refine (crc_Sum.calls _ _ l0 t112 _ ?side1 ?side2 A2.out).mono ?_); (case side1 => repeat (first | exact HR0.out | (with_reducible refine Kd.C_alloc ?_ _) | (with_reducible refine Kd.C_drewN ?_ _) | (with_reducible refine Kd.C_drew ?_))); (case side2 => exact HC0.out); rintro e w4 ⟨rfl, hb⟩; refine ⟨_, rfl, ?_⟩; have n0_ := Aside0.mk (below_step (by repeat (first | (with_reducible first | exact HB.out | apply below_alloc | apply pw_below_drewN | apply below_drew1) | exact HB.out)) hb); clear HB; have HB := n0_; clear n0_; (try clear hb); (try clear hb2); (try clear hk); (try clear hi)) | ((with_reducible refine gate_dst (N := 7) rfl ?_); refine Kd.R_lit (Kd.int .u64) _ 41 ?hg (N := 7) ?hd (xs := ([IntKind.u64.wrap (t112)] : List Int)) (inner := [.int .u64 (IntKind.u64.wrap (t112))]) (ok := fun _ => True) (okp := fun _ => True) ?hr ?hp (fun _ hk => hk) trivial (Below.refl _ _) (Nat.le_refl _) (by simp) ?_; (case hd => rfl); (case hg => rfl); (case hr => first | (go_simp; done) | (go_simp; rfl)); (case hp => exact (Reps.one (show Kd.M (Kd.int .u64) _ _ _ (IntKind.u64.wrap (t112)) [.int .u64 (IntKind.u64.wrap (t112))] from rfl) (Reps.none _ _))); intro v114 w5 ho6 hb hg_ hnew_; clear hg_ hnew_; (first | rw [← Ny113.out] at ho6 | (simp only [Int.reduceToNat] at ho6; rw [← Ny113.out] at ho6)); have n0_ := Aside0.mk (Kd.R_lower ho6 (below_size (by repeat (first | (with_reducible first | exact HB.out | apply below_alloc | apply pw_below_drewN | apply below_drew1) | exact HB.out)))); have n1_ := Aside0.mk (below_step (by repeat (first | (with_reducible first | exact HB.out | apply below_alloc | apply pw_below_drewN | apply below_drew1) | exact HB.out)) hb); clear HB; have HO115 := n0_; have HB := n1_; clear n0_ n1_; clear hb ho6; obtain ⟨Ao7, co7, eo7⟩ := Kd.R_slice HO115.out; subst eo7) | ((with_reducible refine gate_callee (f := 16) rfl ?_); refine goesL_ (some 8) rfl rfl Try.func16 (by kernel_rfl) rfl #[.slice A0 l0.length c0, .int .i64 4, .slice Ao7 y113.length co7] rfl (by (try simp only [List.map_toArray, List.map_cons, List.map_nil]); first | done | rfl | (simp only [List.length_drop, List.length_take]; rfl)) ?_; (with_reducible refine (octet_Put.calls k _ _ l0 4 _ _ y113 t116 _ ?side1 ?side2 ?side3 ?side4 A3.out).mono ?_); (case side1 => repeat (first | exact (Kd.C_below HR0.out HB.out) | (with_reducible refine Kd.C_alloc ?_ _) | (with_reducible refine Kd.C_drewN ?_ _) | (with_reducible refine Kd.C_drew ?_))); (case side2 => exact HC0.out); (case side3 => repeat (first | exact (Kd.R_reads' HO115.out).2.2 | (with_reducible refine Kd.C_alloc ?_ _) | (with_reducible refine Kd.C_drewN ?_ _) | (with_reducible refine Kd.C_drew ?_))); (case side4 => exact (Kd.R_reads' HO115.out).2.1); rintro e w8 ⟨v117, rfl, ho0, hb⟩; refine ⟨_, rfl, ?_⟩; have n0_ := Aside0.mk (Kd.R_below (by (with_reducible repeat (first | apply Kd.R_alloc | apply Kd.R_drewN | apply Kd.R_drew)); exact HO115.out) hb); have n1_ := Aside0.mk (Kd.R_lower ho0 (below_size (by repeat (first | (with_reducible first | exact HB.out | apply below_alloc | apply pw_below_drewN | apply below_drew1) | exact HB.out)))); have n2_ := Aside0.mk (below_step (by repeat (first | (with_reducible first | exact HB.out | apply below_alloc | apply pw_below_drewN | apply below_drew1) | exact HB.out)) hb); clear HO115; clear HB; have HO115 := n0_; have HO118 := n1_; have HB := n2_; clear n0_ n1_ n2_; (try clear hb); (try clear hb2); (try clear hk); (try clear hi); (try clear ho0)))
  go_ret
  exact ⟨_, by first | rfl | (simp [errW_none, errW_some] <;> rfl) | (simp [*, errW_none, errW_some] <;> rfl), by (with_reducible repeat (first | apply Kd.R_alloc | apply Kd.R_drewN | apply Kd.R_drew)); exact HO118.out, by repeat (first | (with_reducible first | exact HB.out | apply below_alloc | apply pw_below_drewN | apply below_drew1) | exact HB.out)⟩

/-- A state of type 51 at block g of W; what its slices lead to came in by w0. -/
def IsS51 (w0 W : World) (g : Nat) (f0 : List Int) (f1 : Bool) : Prop := ∃ A0 c0, W.heap[g]? = some (.cells #[.slice A0 f0.length c0, .bool f1] 51 (0, 0)) ∧ w0.heap.size ≤ g ∧ (Kd.C (Kd.int .u8) w0 A0 f0.length f0 ∧ f0.length ≤ c0)
theorem IsS51.grown {w0 W : World} {g : Nat} {f0 : List Int} {f1 : Bool} {W1 : World} {row : Option Nat} (h : IsS51 w0 W g f0 f1) (hw : W.grownBy W1 row) (hne : some g ≠ row) : IsS51 w0 W1 g f0 f1 := by
  obtain ⟨A0, c0, hb, hg, hr0⟩ := h
  exact ⟨A0, c0, blk_grown hb hw hne, hg, hr0⟩
theorem IsS51.own_neN {w0 W : World} {g : Nat} {f0 : List Int} {f1 : Bool} {α : Type} {d : Kd α} {e : Nat} {base : Nat} {ok : Nat → Prop} {v : Value} {xs : List α} (h : IsS51 w0 W g f0 f1) (ho : Kd.N d e W base ok v xs) (ht : e ≠ 51) : some g ≠ v.ownBlock := by
  obtain ⟨A0, c0, hb, hg, hr0⟩ := h
  exact Kd.N_ne ho hb ht
theorem IsS51.fresh {w0 W : World} {g : Nat} {f0 : List Int} {f1 : Bool} (h : IsS51 w0 W g f0 f1) : ∀ k, W.heap.size ≤ k → k ≠ g := by
  obtain ⟨A0, c0, hb, hg, hr0⟩ := h
  exact Kd.freshB hb
theorem IsS51.kept {w0 W : World} {g : Nat} {f0 : List Int} {f1 : Bool} {W1 : World} {S : Nat → Prop} (h : IsS51 w0 W g f0 f1) (hk : Kept W W1 S) (hne : ¬ S g) : IsS51 w0 W1 g f0 f1 := by
  obtain ⟨A0, c0, hb, hg, hr0⟩ := h
  exact ⟨A0, c0, blk_kept hb hk hne, hg, hr0⟩
theorem IsS51.below {w0 W : World} {g : Nat} {f0 : List Int} {f1 : Bool} {W1 : World} (h : IsS51 w0 W g f0 f1) (hw : Below W.heap.size W W1) : IsS51 w0 W1 g f0 f1 := h.grown (grown_of_below hw none) (by simp)
theorem IsS51.alloc {w0 W : World} {g : Nat} {f0 : List Int} {f1 : Bool} (h : IsS51 w0 W g f0 f1) (o : Obj) : IsS51 w0 (W.alloc o) g f0 f1 := h.below (below_alloc (Below.refl _ _) o)
theorem IsS51.drewN {w0 W : World} {g : Nat} {f0 : List Int} {f1 : Bool} (h : IsS51 w0 W g f0 f1) (m : Nat) : IsS51 w0 (W.drewN m) g f0 f1 := h
theorem IsS51.drew {w0 W : World} {g : Nat} {f0 : List Int} {f1 : Bool} (h : IsS51 w0 W g f0 f1) : IsS51 w0 W.drew g f0 f1 := h
theorem IsS51.at_ {w0 W : World} {g : Nat} {f0 : List Int} {f1 : Bool} {w' : World} {m : Nat} (hq : W.drewN m = w') (h : IsS51 w0 W g f0 f1) : IsS51 w0 w' g f0 f1 := by subst hq; exact IsS51.drewN h m
theorem IsS51.apart {w0 W : World} {g : Nat} {f0 : List Int} {f1 : Bool} {α : Type} {d : Kd α} {e : Nat} {base : Nat} {ok : Nat → Prop} {v : Value} {xs : List α} (h : IsS51 w0 W g f0 f1) (ho : d.R e W base ok v xs) (ht : ∀ q, q ∈ e :: d.E → q ≠ 51) : d.R e W base (fun k => ok k ∧ k ≠ g) v xs := by
  obtain ⟨A0, c0, hb, hg, hr0⟩ := h
  exact Kd.R_types ho hb ht
theorem IsS51.own_ne {w0 W : World} {g : Nat} {f0 : List Int} {f1 : Bool} {α : Type} {d : Kd α} {e : Nat} {base : Nat} {ok : Nat → Prop} {v : Value} {xs : List α} (h : IsS51 w0 W g f0 f1) (ho : d.R e W base ok v xs) (ht : e ≠ 51) : some g ≠ v.ownBlock := by
  obtain ⟨A0, c0, hb, hg, hr0⟩ := h
  exact Kd.R_ne ho hb ht
theorem IsS51.apartQ {w0 W : World} {g : Nat} {f0 : List Int} {f1 : Bool} {α : Type} {d : Kd α} {e : Nat} {base : Nat} {ok : Nat → Prop} {v : Value} {xs : List α} (h : IsS51 w0 W g f0 f1) (ho : d.Q e W base ok v xs) (ht : ∀ q, q ∈ e :: d.E → q ≠ 51) : d.Q e W base (fun k => ok k ∧ k ≠ g) v xs := by
  obtain ⟨A0, c0, hb, hg, hr0⟩ := h
  exact Kd.Q_types ho hb ht
theorem IsS51.own_neQ {w0 W : World} {g : Nat} {f0 : List Int} {f1 : Bool} {α : Type} {d : Kd α} {e : Nat} {base : Nat} {ok : Nat → Prop} {v : Value} {xs : List α} (h : IsS51 w0 W g f0 f1) (ho : d.Q e W base ok v xs) (ht : e ≠ 51) : some g ≠ v.ownBlock := by
  obtain ⟨A0, c0, hb, hg, hr0⟩ := h
  exact Kd.Q_ne ho hb ht
theorem IsS51.apartS {w0 W : World} {g : Nat} {f0 : List Int} {f1 : Bool} {α : Type} {d : Kd α} {e : Nat} {base : Nat} {ok : Nat → Prop} {v : Value} {xs : List α} (h : IsS51 w0 W g f0 f1) (ho : d.S e W base ok v xs) (ht : ∀ q, q ∈ e :: d.E → q ≠ 51) : d.S e W base (fun k => ok k ∧ k ≠ g) v xs := by
  obtain ⟨A0, c0, hb, hg, hr0⟩ := h
  exact Kd.S_types ho hb ht
theorem IsS51.own_neS {w0 W : World} {g : Nat} {f0 : List Int} {f1 : Bool} {α : Type} {d : Kd α} {e : Nat} {base : Nat} {ok : Nat → Prop} {v : Value} {xs : List α} (h : IsS51 w0 W g f0 f1) (ho : d.S e W base ok v xs) (ht : e ≠ 51) : some g ≠ v.ownBlock := by
  obtain ⟨A0, c0, hb, hg, hr0⟩ := h
  exact Kd.S_ne ho hb ht
theorem IsS51.lt {w0 W : World} {g : Nat} {f0 : List Int} {f1 : Bool} (h : IsS51 w0 W g f0 f1) : g < W.heap.size := by
  obtain ⟨A0, c0, hb, hg, hr0⟩ := h
  exact blk_lt hb
theorem IsS51.ge {w0 W : World} {g : Nat} {f0 : List Int} {f1 : Bool} (h : IsS51 w0 W g f0 f1) : w0.heap.size ≤ g := by
  obtain ⟨A0, c0, hb, hg, hr0⟩ := h
  exact hg
theorem IsS51.ne_blk {w0 W : World} {g : Nat} {f0 : List Int} {f1 : Bool} {a : Nat} {cs : Array Value} {t : TypeId} {fr : Nat × Nat} (h : IsS51 w0 W g f0 f1) (hb2 : W.heap[a]? = some (.cells cs t fr)) (ht : t ≠ 51) : g ≠ a := by
  obtain ⟨A0, c0, hb, hg, hr0⟩ := h
  rintro rfl
  rw [hb] at hb2
  injection hb2 with hb2
  injection hb2 with _ ht2
  exact ht ht2.symm
theorem IsS51.far {w0 W : World} {g : Nat} {f0 : List Int} {f1 : Bool} {p : Addr} (h : IsS51 w0 W g f0 f1) (hne : g ≠ p.block) (u : Value) : IsS51 w0 (W.setCell p u) g f0 f1 := by
  obtain ⟨A0, c0, hb, hg, hr0⟩ := h
  exact ⟨A0, c0, blk_far hb hne u, hg, hr0⟩
theorem cellS51_0 {W : World} {g : Nat} {A0 : Option Addr} {c0 : Nat} {f0 : List Int} {f1 : Bool} (h : W.heap[g]? = some (.cells #[.slice A0 f0.length c0, .bool f1] 51 (0, 0))) : W.cell? ⟨g, 0, none⟩ = some (.slice A0 f0.length c0) := (blk_cell h 0).trans rfl
theorem cellS51_1 {W : World} {g : Nat} {A0 : Option Addr} {c0 : Nat} {f0 : List Int} {f1 : Bool} (h : W.heap[g]? = some (.cells #[.slice A0 f0.length c0, .bool f1] 51 (0, 0))) : W.cell? ⟨g, 1, none⟩ = some (.bool f1) := (blk_cell h 1).trans rfl
theorem IsS51.set_1 {w0 W : World} {g : Nat} {f0 : List Int} {f1 : Bool} (h : IsS51 w0 W g f0 f1) (x : Bool) : IsS51 w0 (W.setCell ⟨g, 1, none⟩ (.bool x)) g f0 x := by
  obtain ⟨A0, c0, hb, hg, hr0⟩ := h
  exact ⟨A0, c0, by simpa using blk_set hb 1 (.bool x), hg, hr0⟩
theorem IsS51.new (w0 W : World) (A0 : Option Addr) (c0 : Nat) (f0 : List Int) (f1 : Bool) (hB : Below w0.heap.size w0 W) (hr0 : (Kd.C (Kd.int .u8) w0 A0 f0.length f0 ∧ f0.length ≤ c0)) : IsS51 w0 (W.alloc (.cells #[.slice A0 f0.length c0, .bool f1] 51)) W.heap.size f0 f1 := ⟨A0, c0, by simpa using heap_alloc_new W _, hB.size, hr0⟩

/-! ### octet_Read: function 18 -/
def octet_Read.f (l0 : List Int) : Option (List Int × Bool) := some (l0, false)
set_option maxHeartbeats 8000000 in
set_option maxRecDepth 100000 in
theorem octet_Read.calls (A0 : Option Addr) (c0 : Nat) (l0 : List Int) (r1 : List Int) (r2 : Bool) (w0 w : World) (hB : Below w0.heap.size w0 w) (hr0 : Kd.C (Kd.int .u8) w0 A0 l0.length l0) (hc0 : l0.length ≤ c0) (h : octet_Read.f l0 = some (r1, r2)) :
    Calls Try.prog 18 #[.slice A0 l0.length c0] w fun e w' => ∃ g_ : Nat, e = .returned (.pointer (some ⟨g_, 0, none⟩)) ∧ IsS51 w0 w' g_ r1 r2 ∧ Below w0.heap.size w0 w' ∧ Below w.heap.size w w' := by
  have hu49 := Try.underlying49
  have hu51 := Try.underlying51
  have HR0 := Aside0.mk hr0
  have HC0 := Aside0.mk hc0
  clear hr0 hc0
  have HBW := Aside0.mk (Below.refl w.heap.size w)
  have HW0 := Aside0.mk hB.size
  have HB := Aside0.mk hB
  clear hB
  have H : (some (l0, false)) = some (r1, r2) := h
  clear h
  simp only [Option.some.injEq, Prod.mk.injEq] at H
  obtain ⟨rfl, rfl⟩ := H
  go_enter Try.func18, Try.ntmps18
  go_wp2_with (first | ((with_reducible refine gate_dst (N := 6) rfl ?_); refine box_event ?hg (N := 6) ?hd (cs := #[.slice A0 l0.length c0, .bool false]) (t := 51) ?hr ?_; (case hd => rfl); (case hg => rfl); (case hr => first | (go_simp; done) | (go_simp; rfl)); intro gb119 hg w2 hbox hb; have n0_ := Aside0.mk (below_step HBW.out hb); have n1_ := Aside0.mk (below_step (by repeat (first | (with_reducible first | exact HB.out | apply below_alloc | apply pw_below_drewN | apply below_drew1) | exact HB.out)) hb); have n2_ := Aside0.mk (hbox); have n3_ := Aside0.mk ((by rw [hg]; exact (below_size (by repeat (first | (with_reducible first | exact HBW.out | apply below_alloc | apply pw_below_drewN | apply below_drew1) | exact HBW.out))) : w.heap.size ≤ gb119)); have n4_ := Aside0.mk ((Nat.le_trans HW0.out (by rw [hg]; exact (below_size (by repeat (first | (with_reducible first | exact HBW.out | apply below_alloc | apply pw_below_drewN | apply below_drew1) | exact HBW.out))) : w.heap.size ≤ gb119) : w0.heap.size ≤ gb119)); clear HBW; clear HB; have HBW := n0_; have HB := n1_; have BK119 := n2_; have GW119 := n3_; have GE119 := n4_; clear n0_ n1_ n2_ n3_ n4_; clear hb hbox hg))
  go_ret
  exact ⟨_, rfl, (show IsS51 w0 _ gb119 l0 false from ⟨_, _, by (with_reducible repeat (first | refine blk_drewN ?_ _ | refine blk_drew ?_ | refine blk_alloc ?_ _)); exact BK119.out, GE119.out, ⟨HR0.out, HC0.out⟩⟩), by repeat (first | (with_reducible first | exact HB.out | apply below_alloc | apply pw_below_drewN | apply below_drew1 | refine below_set ?_ GE119.out) | exact HB.out), by repeat (first | (with_reducible first | exact HBW.out | apply below_alloc | apply pw_below_drewN | apply below_drew1 | refine below_set ?_ GW119.out) | exact HBW.out)⟩

-- NOT PRINTED: function 58 (octet_rest_Fail)

/-! ### octet_Reader_Fail: function 25 -/
section
open Go.Proofs.Ytejflbmpokdhgaa.K
def octet_Reader_Fail.f (s0_0 : List Int) (s0_1 : Bool) : Option (List Int × Bool) := some ([], true)
set_option maxHeartbeats 1000000 in
theorem octet_Reader_Fail.calls (g : Nat) (s0_0 : List Int) (s0_1 : Bool) (r1 : List Int) (r2 : Bool) (w0 w : World) (hI : IsS51 w0 w g s0_0 s0_1) (hB : Below w0.heap.size w0 w) (h : octet_Reader_Fail.f s0_0 s0_1 = some (r1, r2)) :
    Calls Try.prog 25 #[.pointer (some ⟨g, 0, none⟩)] w fun e w' => e = .returned (.tuple #[]) ∧ IsS51 w0 w' g r1 r2 ∧ Below w0.heap.size w0 w' ∧ KeepBut w w' g none := by
  obtain ⟨A, c, hb, hg, hC, hle⟩ := hI
  have HA := Hp.obj hb
  injection h with h
  simp only [Prod.mk.injEq] at h
  obtain ⟨rfl, rfl⟩ := h
  clear hb hC hle
  go_enter Try.func25, Try.ntmps25
  go_wp2_with (first | ((with_reducible refine g_go ?_ ?_); exact rfl) | ((with_reducible refine is_load _ _ ?_); refine u_load HA (by exact rfl) (by (repeat (first | exact MemL.here | refine MemL.next ?_))) (by exact rfl) (by exact rfl) ?_) | ((with_reducible refine is_load _ _ ?_); refine u_seg HA (by exact rfl) (by (repeat (first | exact MemL.here | refine MemL.next ?_))) (by exact rfl) (by (repeat (first | exact SegL.done | apply SegL.take | apply SegL.skip))) ?_) | ((with_reducible refine is_store _ _ _ ?_); (first | (refine u_store1 HA (by exact rfl) (by exact rfl) (by exact rfl) (by (repeat (first | exact MemL.here | refine MemL.next ?_))) (by (repeat (first | exact SplL.done | (apply SplL.put; exact rfl) | apply SplL.skip))) (by (repeat (first | exact PickL.here | apply PickL.next))) (by exact rfl) ?_) | (refine u_storeS HA (by exact rfl) (by exact rfl) (by (repeat (first | exact MemL.here | refine MemL.next ?_))) (by (repeat (first | exact SplL.done | (apply SplL.put; exact rfl) | apply SplL.skip))) (by (repeat (first | exact PickL.here | apply PickL.next))) (by exact rfl) (by exact rfl) ?_)); clear HA; intro wn HA) | ((with_reducible refine u_new HA ?_); clear HA; intro gn wn hg HA; (try rw [← hg]); clear hg) | go_in | (go_back; (try go_simp)) | (go_end0; simp only []; go_at_K) | ((refine bodyPost_ret (res1 rfl (by (first | exact rv_tmp _ | (exact u_rv HA (by exact rfl) (by (repeat (first | exact MemL.here | refine MemL.next ?_))) (by exact rfl) (by exact rfl)) | (exact u_rvs HA (by exact rfl) (by (repeat (first | exact MemL.here | refine MemL.next ?_))) (by exact rfl) (by exact rfl))))) rfl ?_); simp only []; go_at_K; (try go_simp)))
  go_end0
  exact ⟨rfl, ⟨none, 0, HA.blk MemL.here, hg, Kd.C_nil _ _, Nat.le_refl _⟩, HA.below0 hB hg, HA.keep⟩
end

/-! ### octet_Reader_Num: function 19 -/
section
open Go.Proofs.Ytejflbmpokdhgaa.K
/-- The number of the first k bytes, the lowest first. -/
def numAt (l : List Int) : Nat → Int
  | 0 => 0
  | k + 1 => Go.bits .or .u64 (numAt l k) (IntKind.u64.wrap (IntKind.u64.wrap (l[k]?.getD 0) * 2 ^ (8 * k)))
def octet_Reader_Num.f (s0_0 : List Int) (s0_1 : Bool) (a1 : Int) : Option (Int × List Int × Bool) :=
  if a1 < 1 ∨ 8 < a1 ∨ (s0_0.length : Int) < a1 ∨ s0_1 = true then some (0, [], true) else some (numAt s0_0 a1.toNat, s0_0.drop a1.toNat, false)
set_option maxHeartbeats 4000000 in
theorem octet_Reader_Num.calls (g : Nat) (s0_0 : List Int) (s0_1 : Bool) (a1 : Int) (r1 : Int) (r2 : List Int) (r3 : Bool) (w0 w : World) (hI : IsS51 w0 w g s0_0 s0_1) (hB : Below w0.heap.size w0 w) (h : octet_Reader_Num.f s0_0 s0_1 a1 = some (r1, r2, r3)) :
    Calls Try.prog 19 #[.pointer (some ⟨g, 0, none⟩), .int .i64 a1] w fun e w' => e = .returned (.int .u64 r1) ∧ IsS51 w0 w' g r2 r3 ∧ Below w0.heap.size w0 w' ∧ KeepBut w w' g none := by
  obtain ⟨A, c, hb, hg, hC, hle⟩ := hI
  have HA := Hp.obj hb
  have hm := Kd.C_max hC
  clear hb
  unfold octet_Reader_Num.f at h
  by_cases hbad : a1 < 1 ∨ 8 < a1 ∨ (s0_0.length : Int) < a1 ∨ s0_1 = true
  · rw [if_pos hbad] at h
    injection h with h
    simp only [Prod.mk.injEq] at h
    obtain ⟨rfl, rfl, rfl⟩ := h
    by_cases h1 : a1 < 1
    · have d1 : decide (a1 < 1) = true := by simpa using h1
      clear hbad
      go_enter Try.func19, Try.ntmps19
      go_wp2_with (first | ((with_reducible refine g_go ?_ ?_); exact rfl) | ((with_reducible refine is_load _ _ ?_); refine u_load HA (by exact rfl) (by (repeat (first | exact MemL.here | refine MemL.next ?_))) (by exact rfl) (by exact rfl) ?_) | ((with_reducible refine is_load _ _ ?_); refine u_seg HA (by exact rfl) (by (repeat (first | exact MemL.here | refine MemL.next ?_))) (by exact rfl) (by (repeat (first | exact SegL.done | apply SegL.take | apply SegL.skip))) ?_) | ((with_reducible refine is_store _ _ _ ?_); (first | (refine u_store1 HA (by exact rfl) (by exact rfl) (by exact rfl) (by (repeat (first | exact MemL.here | refine MemL.next ?_))) (by (repeat (first | exact SplL.done | (apply SplL.put; exact rfl) | apply SplL.skip))) (by (repeat (first | exact PickL.here | apply PickL.next))) (by exact rfl) ?_) | (refine u_storeS HA (by exact rfl) (by exact rfl) (by (repeat (first | exact MemL.here | refine MemL.next ?_))) (by (repeat (first | exact SplL.done | (apply SplL.put; exact rfl) | apply SplL.skip))) (by (repeat (first | exact PickL.here | apply PickL.next))) (by exact rfl) (by exact rfl) ?_)); clear HA; intro wn HA) | ((with_reducible refine u_new HA ?_); clear HA; intro gn wn hg HA; (try rw [← hg]); clear hg) | go_in | (go_back; (try go_simp)) | (go_end0; simp only []; go_at_K) | ((refine bodyPost_ret (res1 rfl (by (first | exact rv_tmp _ | (exact u_rv HA (by exact rfl) (by (repeat (first | exact MemL.here | refine MemL.next ?_))) (by exact rfl) (by exact rfl)) | (exact u_rvs HA (by exact rfl) (by (repeat (first | exact MemL.here | refine MemL.next ?_))) (by exact rfl) (by exact rfl))))) rfl ?_); simp only []; go_at_K; (try go_simp)))
      go_ret
      exact ⟨rfl, ⟨none, 0, HA.blk MemL.here, hg, Kd.C_nil _ _, Nat.le_refl _⟩, HA.below0 hB hg, HA.keep⟩
    · have d1 : decide (a1 < 1) = false := by simpa using h1
      by_cases h2 : 8 < a1
      · have d2 : decide (8 < a1) = true := by simpa using h2
        clear hbad
        go_enter Try.func19, Try.ntmps19
        go_wp2_with (first | ((with_reducible refine g_go ?_ ?_); exact rfl) | ((with_reducible refine is_load _ _ ?_); refine u_load HA (by exact rfl) (by (repeat (first | exact MemL.here | refine MemL.next ?_))) (by exact rfl) (by exact rfl) ?_) | ((with_reducible refine is_load _ _ ?_); refine u_seg HA (by exact rfl) (by (repeat (first | exact MemL.here | refine MemL.next ?_))) (by exact rfl) (by (repeat (first | exact SegL.done | apply SegL.take | apply SegL.skip))) ?_) | ((with_reducible refine is_store _ _ _ ?_); (first | (refine u_store1 HA (by exact rfl) (by exact rfl) (by exact rfl) (by (repeat (first | exact MemL.here | refine MemL.next ?_))) (by (repeat (first | exact SplL.done | (apply SplL.put; exact rfl) | apply SplL.skip))) (by (repeat (first | exact PickL.here | apply PickL.next))) (by exact rfl) ?_) | (refine u_storeS HA (by exact rfl) (by exact rfl) (by (repeat (first | exact MemL.here | refine MemL.next ?_))) (by (repeat (first | exact SplL.done | (apply SplL.put; exact rfl) | apply SplL.skip))) (by (repeat (first | exact PickL.here | apply PickL.next))) (by exact rfl) (by exact rfl) ?_)); clear HA; intro wn HA) | ((with_reducible refine u_new HA ?_); clear HA; intro gn wn hg HA; (try rw [← hg]); clear hg) | go_in | (go_back; (try go_simp)) | (go_end0; simp only []; go_at_K) | ((refine bodyPost_ret (res1 rfl (by (first | exact rv_tmp _ | (exact u_rv HA (by exact rfl) (by (repeat (first | exact MemL.here | refine MemL.next ?_))) (by exact rfl) (by exact rfl)) | (exact u_rvs HA (by exact rfl) (by (repeat (first | exact MemL.here | refine MemL.next ?_))) (by exact rfl) (by exact rfl))))) rfl ?_); simp only []; go_at_K; (try go_simp)))
        go_ret
        exact ⟨rfl, ⟨none, 0, HA.blk MemL.here, hg, Kd.C_nil _ _, Nat.le_refl _⟩, HA.below0 hB hg, HA.keep⟩
      · have d2 : decide (8 < a1) = false := by simpa using h2
        have d3 : decide (a1 < 0) = false := by simp; omega
        obtain ⟨n, rfl⟩ := Int.eq_ofNat_of_zero_le (show 0 ≤ a1 by omega)
        by_cases h3 : s0_0.length < n
        · have d5 : decide (s0_0.length < n) = true := by simpa using h3
          clear hbad
          go_enter Try.func19, Try.ntmps19
          go_wp2_with (first | ((with_reducible refine g_go ?_ ?_); exact rfl) | ((with_reducible refine is_load _ _ ?_); refine u_load HA (by exact rfl) (by (repeat (first | exact MemL.here | refine MemL.next ?_))) (by exact rfl) (by exact rfl) ?_) | ((with_reducible refine is_load _ _ ?_); refine u_seg HA (by exact rfl) (by (repeat (first | exact MemL.here | refine MemL.next ?_))) (by exact rfl) (by (repeat (first | exact SegL.done | apply SegL.take | apply SegL.skip))) ?_) | ((with_reducible refine is_store _ _ _ ?_); (first | (refine u_store1 HA (by exact rfl) (by exact rfl) (by exact rfl) (by (repeat (first | exact MemL.here | refine MemL.next ?_))) (by (repeat (first | exact SplL.done | (apply SplL.put; exact rfl) | apply SplL.skip))) (by (repeat (first | exact PickL.here | apply PickL.next))) (by exact rfl) ?_) | (refine u_storeS HA (by exact rfl) (by exact rfl) (by (repeat (first | exact MemL.here | refine MemL.next ?_))) (by (repeat (first | exact SplL.done | (apply SplL.put; exact rfl) | apply SplL.skip))) (by (repeat (first | exact PickL.here | apply PickL.next))) (by exact rfl) (by exact rfl) ?_)); clear HA; intro wn HA) | ((with_reducible refine u_new HA ?_); clear HA; intro gn wn hg HA; (try rw [← hg]); clear hg) | go_in | (go_back; (try go_simp)) | (go_end0; simp only []; go_at_K) | ((refine bodyPost_ret (res1 rfl (by (first | exact rv_tmp _ | (exact u_rv HA (by exact rfl) (by (repeat (first | exact MemL.here | refine MemL.next ?_))) (by exact rfl) (by exact rfl)) | (exact u_rvs HA (by exact rfl) (by (repeat (first | exact MemL.here | refine MemL.next ?_))) (by exact rfl) (by exact rfl))))) rfl ?_); simp only []; go_at_K; (try go_simp)))
          go_loopw [25, 5] (fun v25 v5 wr => v25 = .int .i64 0 ∧ v5 = .int .u64 0 ∧ Hp w.heap.size (fun k => k = g) w wr [⟨g, #[.slice none 0 0, .bool true], 51⟩]) (fun _ _ _ => 0)
          case atStart => exact ⟨rfl, rfl, HA⟩
          case round =>
            clear HA
            obtain ⟨rfl, rfl, HA⟩ := hrel
            go_wp2
            go_ret
            exact ⟨rfl, ⟨none, 0, HA.blk MemL.here, hg, Kd.C_nil _ _, Nat.le_refl _⟩, HA.below0 hB hg, HA.keep⟩
        · have d5 : decide (s0_0.length < n) = false := by simpa using h3
          obtain rfl : s0_1 = true := by
            rcases hbad with h | h | h | h
            · exact absurd h h1
            · exact absurd h h2
            · omega
            · exact h
          clear hbad
          go_enter Try.func19, Try.ntmps19
          go_wp2_with (first | ((with_reducible refine g_go ?_ ?_); exact rfl) | ((with_reducible refine is_load _ _ ?_); refine u_load HA (by exact rfl) (by (repeat (first | exact MemL.here | refine MemL.next ?_))) (by exact rfl) (by exact rfl) ?_) | ((with_reducible refine is_load _ _ ?_); refine u_seg HA (by exact rfl) (by (repeat (first | exact MemL.here | refine MemL.next ?_))) (by exact rfl) (by (repeat (first | exact SegL.done | apply SegL.take | apply SegL.skip))) ?_) | ((with_reducible refine is_store _ _ _ ?_); (first | (refine u_store1 HA (by exact rfl) (by exact rfl) (by exact rfl) (by (repeat (first | exact MemL.here | refine MemL.next ?_))) (by (repeat (first | exact SplL.done | (apply SplL.put; exact rfl) | apply SplL.skip))) (by (repeat (first | exact PickL.here | apply PickL.next))) (by exact rfl) ?_) | (refine u_storeS HA (by exact rfl) (by exact rfl) (by (repeat (first | exact MemL.here | refine MemL.next ?_))) (by (repeat (first | exact SplL.done | (apply SplL.put; exact rfl) | apply SplL.skip))) (by (repeat (first | exact PickL.here | apply PickL.next))) (by exact rfl) (by exact rfl) ?_)); clear HA; intro wn HA) | ((with_reducible refine u_new HA ?_); clear HA; intro gn wn hg HA; (try rw [← hg]); clear hg) | go_in | (go_back; (try go_simp)) | (go_end0; simp only []; go_at_K) | ((refine bodyPost_ret (res1 rfl (by (first | exact rv_tmp _ | (exact u_rv HA (by exact rfl) (by (repeat (first | exact MemL.here | refine MemL.next ?_))) (by exact rfl) (by exact rfl)) | (exact u_rvs HA (by exact rfl) (by (repeat (first | exact MemL.here | refine MemL.next ?_))) (by exact rfl) (by exact rfl))))) rfl ?_); simp only []; go_at_K; (try go_simp)))
          go_loopw [25, 5] (fun v25 v5 wr => v25 = .int .i64 0 ∧ v5 = .int .u64 0 ∧ Hp w.heap.size (fun k => k = g) w wr [⟨g, #[.slice none 0 0, .bool true], 51⟩]) (fun _ _ _ => 0)
          case atStart => exact ⟨rfl, rfl, HA⟩
          case round =>
            clear HA
            obtain ⟨rfl, rfl, HA⟩ := hrel
            go_wp2
            go_ret
            exact ⟨rfl, ⟨none, 0, HA.blk MemL.here, hg, Kd.C_nil _ _, Nat.le_refl _⟩, HA.below0 hB hg, HA.keep⟩
  · rw [if_neg hbad] at h
    injection h with h
    simp only [Prod.mk.injEq] at h
    obtain ⟨rfl, rfl, rfl⟩ := h
    obtain ⟨h1, h2, h3, h4⟩ : ¬ a1 < 1 ∧ ¬ 8 < a1 ∧ ¬ (s0_0.length : Int) < a1 ∧ s0_1 = false := by
      simp only [not_or, Bool.not_eq_true] at hbad
      exact hbad
    subst h4
    clear hbad
    have d1 : decide (a1 < 1) = false := by simpa using h1
    have d2 : decide (8 < a1) = false := by simpa using h2
    have d3 : decide (a1 < 0) = false := by simp; omega
    obtain ⟨n, rfl⟩ := Int.eq_ofNat_of_zero_le (show 0 ≤ a1 by omega)
    have d5 : decide (s0_0.length < n) = false := by simp; omega
    have hlo : 1 ≤ n := by omega
    have hhi : n ≤ 8 := by omega
    have hle2 : n ≤ s0_0.length := by omega
    rw [Int.toNat_natCast]
    clear h1 h2 h3
    go_enter Try.func19, Try.ntmps19
    go_wp2_with (first | ((with_reducible refine g_go ?_ ?_); exact rfl) | ((with_reducible refine is_load _ _ ?_); refine u_load HA (by exact rfl) (by (repeat (first | exact MemL.here | refine MemL.next ?_))) (by exact rfl) (by exact rfl) ?_) | ((with_reducible refine is_load _ _ ?_); refine u_seg HA (by exact rfl) (by (repeat (first | exact MemL.here | refine MemL.next ?_))) (by exact rfl) (by (repeat (first | exact SegL.done | apply SegL.take | apply SegL.skip))) ?_) | ((with_reducible refine is_store _ _ _ ?_); (first | (refine u_store1 HA (by exact rfl) (by exact rfl) (by exact rfl) (by (repeat (first | exact MemL.here | refine MemL.next ?_))) (by (repeat (first | exact SplL.done | (apply SplL.put; exact rfl) | apply SplL.skip))) (by (repeat (first | exact PickL.here | apply PickL.next))) (by exact rfl) ?_) | (refine u_storeS HA (by exact rfl) (by exact rfl) (by (repeat (first | exact MemL.here | refine MemL.next ?_))) (by (repeat (first | exact SplL.done | (apply SplL.put; exact rfl) | apply SplL.skip))) (by (repeat (first | exact PickL.here | apply PickL.next))) (by exact rfl) (by exact rfl) ?_)); clear HA; intro wn HA) | ((with_reducible refine u_new HA ?_); clear HA; intro gn wn hg HA; (try rw [← hg]); clear hg) | go_in | (go_back; (try go_simp)) | (go_end0; simp only []; go_at_K) | ((refine bodyPost_ret (res1 rfl (by (first | exact rv_tmp _ | (exact u_rv HA (by exact rfl) (by (repeat (first | exact MemL.here | refine MemL.next ?_))) (by exact rfl) (by exact rfl)) | (exact u_rvs HA (by exact rfl) (by (repeat (first | exact MemL.here | refine MemL.next ?_))) (by exact rfl) (by exact rfl))))) rfl ?_); simp only []; go_at_K; (try go_simp)))
    all_goals
      go_loopw [25, 5] (fun v25 v5 wr => ∃ k : Nat, k ≤ n ∧ v25 = .int .i64 k ∧ v5 = .int .u64 (numAt s0_0 k) ∧ Hp w.heap.size (fun k => k = g) w wr [⟨g, #[.slice (if c = n then A else A.map fun x => x.add n) (s0_0.length - n) (c - n), .bool false], 51⟩]) (fun v25 _ _ => n - (intOf v25).toNat)
      case atStart => exact ⟨0, by omega, rfl, rfl, HA⟩
      case round =>
        clear HA
        obtain ⟨k, hk, rfl, rfl, HA⟩ := hrel
        by_cases hlt : k < n
        · obtain ⟨ad, rfl, hrd⟩ := C_int hC k (by omega)
          have hcell := HA.came hB hg hrd
          have e1 : decide (k < n) = true := by simpa using hlt
          go_wp2_with (first | ((with_reducible refine g_go ?_ ?_); exact rfl) | ((with_reducible refine is_load _ _ ?_); refine u_load HA (by exact rfl) (by (repeat (first | exact MemL.here | refine MemL.next ?_))) (by exact rfl) (by exact rfl) ?_) | ((with_reducible refine is_load _ _ ?_); refine u_seg HA (by exact rfl) (by (repeat (first | exact MemL.here | refine MemL.next ?_))) (by exact rfl) (by (repeat (first | exact SegL.done | apply SegL.take | apply SegL.skip))) ?_) | ((with_reducible refine is_store _ _ _ ?_); (first | (refine u_store1 HA (by exact rfl) (by exact rfl) (by exact rfl) (by (repeat (first | exact MemL.here | refine MemL.next ?_))) (by (repeat (first | exact SplL.done | (apply SplL.put; exact rfl) | apply SplL.skip))) (by (repeat (first | exact PickL.here | apply PickL.next))) (by exact rfl) ?_) | (refine u_storeS HA (by exact rfl) (by exact rfl) (by (repeat (first | exact MemL.here | refine MemL.next ?_))) (by (repeat (first | exact SplL.done | (apply SplL.put; exact rfl) | apply SplL.skip))) (by (repeat (first | exact PickL.here | apply PickL.next))) (by exact rfl) (by exact rfl) ?_)); clear HA; intro wn HA) | ((with_reducible refine u_new HA ?_); clear HA; intro gn wn hg HA; (try rw [← hg]); clear hg) | ((with_reducible refine is_load _ _ ?_); refine u_cell (by exact rfl) (by exact rfl) hcell ?_) | go_in | (go_back; (try go_simp)) | (go_end0; simp only []; go_at_K) | ((refine bodyPost_ret (res1 rfl (by (first | exact rv_tmp _ | (exact u_rv HA (by exact rfl) (by (repeat (first | exact MemL.here | refine MemL.next ?_))) (by exact rfl) (by exact rfl)) | (exact u_rvs HA (by exact rfl) (by (repeat (first | exact MemL.here | refine MemL.next ?_))) (by exact rfl) (by exact rfl))))) rfl ?_); simp only []; go_at_K; (try go_simp)))
          go_roundw
          case rel => exact ⟨k + 1, by omega, by go_num, rfl, HA⟩
          case measure => simp [intOf]; omega
        · obtain rfl : k = n := by omega
          have e1 : decide (k < k) = false := by simp
          go_wp2_with (first | ((with_reducible refine g_go ?_ ?_); exact rfl) | ((with_reducible refine is_load _ _ ?_); refine u_load HA (by exact rfl) (by (repeat (first | exact MemL.here | refine MemL.next ?_))) (by exact rfl) (by exact rfl) ?_) | ((with_reducible refine is_load _ _ ?_); refine u_seg HA (by exact rfl) (by (repeat (first | exact MemL.here | refine MemL.next ?_))) (by exact rfl) (by (repeat (first | exact SegL.done | apply SegL.take | apply SegL.skip))) ?_) | ((with_reducible refine is_store _ _ _ ?_); (first | (refine u_store1 HA (by exact rfl) (by exact rfl) (by exact rfl) (by (repeat (first | exact MemL.here | refine MemL.next ?_))) (by (repeat (first | exact SplL.done | (apply SplL.put; exact rfl) | apply SplL.skip))) (by (repeat (first | exact PickL.here | apply PickL.next))) (by exact rfl) ?_) | (refine u_storeS HA (by exact rfl) (by exact rfl) (by (repeat (first | exact MemL.here | refine MemL.next ?_))) (by (repeat (first | exact SplL.done | (apply SplL.put; exact rfl) | apply SplL.skip))) (by (repeat (first | exact PickL.here | apply PickL.next))) (by exact rfl) (by exact rfl) ?_)); clear HA; intro wn HA) | ((with_reducible refine u_new HA ?_); clear HA; intro gn wn hg HA; (try rw [← hg]); clear hg) | go_in | (go_back; (try go_simp)) | (go_end0; simp only []; go_at_K) | ((refine bodyPost_ret (res1 rfl (by (first | exact rv_tmp _ | (exact u_rv HA (by exact rfl) (by (repeat (first | exact MemL.here | refine MemL.next ?_))) (by exact rfl) (by exact rfl)) | (exact u_rvs HA (by exact rfl) (by (repeat (first | exact MemL.here | refine MemL.next ?_))) (by exact rfl) (by exact rfl))))) rfl ?_); simp only []; go_at_K; (try go_simp)))
          go_ret
          refine ⟨rfl, ⟨if c = k then A else A.map fun x => x.add k, c - k, ?_, hg, ?_, ?_⟩, HA.below0 hB hg, HA.keep⟩
          · have hq := HA.blk MemL.here
            rw [← List.length_drop] at hq
            exact hq
          · have hd := Kd.C_drop hC hle2 hle
            simpa [show (Kd.int IntKind.u8).sz = 1 from rfl] using hd
          · rw [List.length_drop]; omega
end

end Go.Proofs.Ytejflbmpokdhgaa.PSeals
