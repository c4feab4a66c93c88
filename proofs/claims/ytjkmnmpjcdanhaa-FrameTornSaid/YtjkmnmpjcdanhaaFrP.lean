/- Contracts, picked of my other texts. -/
import Derived.Test.YtjkmnmpjcdanhaaFrO
namespace Go.Proofs.Ytjkmnmpjcdanhaa.S
set_option linter.all false
set_option maxRecDepth 100000
set_option maxHeartbeats 1000000
theorem bytes_u8s (l : List Int) : Bytes (u8s l) := fun row h => by
  obtain ⟨n, _, rfl⟩ := List.mem_map.1 h
  exact ⟨n, rfl⟩
def nmI (s : ByteArray) : List Int := s.data.toList.map fun b => (b.toNat : Int)
theorem strOf_size (c : List Int) : (strOf (u8s c)).size = c.length := by
  show ((List.map byteOf (u8s c)).toArray).size = _
  simp [u8s_len]
theorem strOf_nm (s : ByteArray) : strOf (u8s (nmI s)) = s := by
  obtain ⟨a⟩ := s
  unfold strOf
  congr 1
  have : List.map byteOf (u8s (nmI ⟨a⟩)) = a.toList := by
    simp only [u8s, nmI, List.map_map]
    refine Eq.trans (List.map_congr_left fun b _ => ?_) (List.map_id _)
    simp [byteOf]
  rw [this]
theorem nmI_str (c : List Int) (h : ByteL c) : nmI (strOf (u8s c)) = c := by
  unfold nmI strOf
  simp only [u8s, List.map_map]
  refine Eq.trans (List.map_congr_left fun b hb => ?_) (List.map_id _)
  have := h b hb
  simp only [Function.comp, byteOf, id]
  rw [UInt8.toNat_ofNat']
  omega
end Go.Proofs.Ytjkmnmpjcdanhaa.S
