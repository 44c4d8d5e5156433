/- Parts of the proof: MarkT. -/
import Derived.Laws.BytesArg
import Derived.Test.YtcfpnjcamcpieaaPw7
import Derived.Test.YtcfpnjcamcpieaaPw8
section
namespace Go.Proofs.Ytcfpnjcamcpieaa
open Go Go.RowKit
set_option linter.unusedVariables false
set_option linter.unusedSimpArgs false
set_option maxRecDepth 100000
set_option maxHeartbeats 16000000
theorem zV (k : Int) (w : World) (h0 : 0 < k) (h1 : k ≤ 200000000000000) : Calls Try.prog 39 #[.int .i64 k] w fun e w' => e = .returned (.string (mtx k)) ∧ Below w.heap.size w w' := by
 obtain ⟨n, rfl⟩ := Int.eq_ofNat_of_zero_le (Int.le_of_lt h0)
 have HM := Lib.hid (show mtx (n : Int) = ⟨(109 :: zbg n n []).toArray⟩ from by unfold mtx; rw [if_neg (by omega)]; simp)
 go_enter Try.func39, Try.ntmps39
 go_wp2
 go_loopw [0, 3] (fun kv ov wr => ∃ (kk fuel : Nat) (l : List UInt8), kv = .int .i64 kk ∧ ov = .string ⟨l.toArray⟩ ∧ kk ≤ fuel ∧ kk ≤ n ∧ l.length + kk ≤ 400000000000000 ∧ Hid (zbg fuel kk l = zbg n n []) ∧ Below w.heap.size w wr) (fun kv _ _ => (intOf kv).toNat)
 case atStart => exact ⟨n, n, [], rfl, rfl, Nat.le_refl _, Nat.le_refl _, by simp; omega, rfl, Below.refl _ _⟩
 case round =>
  obtain ⟨kk, fuel, l, rfl, rfl, hf, hkn, hl, hm, hb⟩ := hrel
  by_cases hk : 0 < kk
  ·have hcv := run_convert_bytes_arg (P := Try.prog) (wr.alloc (.cells #[.int .u8 (48 + (kk : Int) % 10)] 5)) 104 5 Try.underlying104 Try.underlying5 wr.heap.size 0 1 1 [48 + (kk : Int) % 10] rfl
    (fun i hi => by (obtain rfl : i = 0 := by omega); exact zp _ _ _ 0) 9 Try.underlying9
   have hsz : ¬ 9223372036854775807 < (strOfNums [48 + (kk : Int) % 10]).size + l.length := by rw [strOfNums_size]; simp; omega
   go_wp2
   go_roundw
   case rel =>
    obtain ⟨f, rfl⟩ : ∃ f, fuel = f + 1 := ⟨fuel - 1, by omega⟩
    refine ⟨kk / 10, f, UInt8.ofNat (48 + kk % 10) :: l, by go_num, ?_, by omega, by omega, by simp; omega, ?_, hb.alloc hb.size _⟩
    ·refine congrArg Value.string (zac.1 ?_)
     rw [show strOfNums [48 + (kk : Int) % 10] = ⟨[UInt8.ofNat (48 + kk % 10)].toArray⟩ from by simp only [strOfNums, List.map_cons, List.map_nil]; rw [show (48 + (kk : Int) % 10).toNat = 48 + kk % 10 from by omega]]
     rw [ByteArray.toList_eq, ByteArray.toList_eq, ByteArray.data_append]
     simp
    ·show zbg f (kk / 10) _ = _
     rw [← hm.out, zbg, if_neg (by omega)]
   case measure => simp [intOf]; omega
  ·obtain rfl : kk = 0 := by omega
   have hm' : zbg fuel 0 l = l := by cases fuel <;> simp [zbg]
   go_wp2
   go_ret
   refine ⟨retS ?_, hb⟩
   rw [HM.out, ← hm.out, hm']
   rfl
end Go.Proofs.Ytcfpnjcamcpieaa
end
