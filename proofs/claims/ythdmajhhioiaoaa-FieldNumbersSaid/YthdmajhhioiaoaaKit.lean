/- Small laws of our own on the model's operations, over any program: for all seats. -/
import Derived.WalkKit
import Derived.Outline
import Derived.LoopTactic
import Derived.Lib.Hide
import Derived.WalkSpells
import Derived.WalkLawsBesides
import Derived.Lib.MinMax
import Derived.Laws.IdiomStrings
set_option linter.unusedVariables false
namespace Sw
open Go Go.RowKit
/-- 'string([]byte{b})': the conversion of a new slice of one byte. -/
theorem conv_one {P : Program} (src dst e : TypeId) (hs : P.underlying src = some (.slice e)) (he : P.underlying e = some (.int .u8)) (hd : P.underlying dst = some .string) (w : World) (b : Int) (hb0 : 0 ≤ b) (hb : b < 256) :
    (convert src dst (.slice (some ⟨w.heap.size, 0, none⟩) 1 1)).run P (w.alloc (.cells #[.int .u8 b] e)) = .ok (.string ⟨#[UInt8.ofNat b.toNat]⟩) (w.alloc (.cells #[.int .u8 b] e)) := by
  have hn : b.toNat < 256 := by omega
  have hv : (UInt8.ofNat b.toNat).toNat = b.toNat := by simp; omega
  have h := run_convert_bytes_back (P := P) (w.alloc (.cells #[.int .u8 b] e)) src dst e ⟨w.heap.size, 0, none⟩ 1 [UInt8.ofNat b.toNat] hs he hd ?_
  · simpa using h
  · intro j hj
    have hj0 : j = 0 := by simpa using hj
    subst hj0
    have hc := World.cell?_alloc_mark w #[.int .u8 b] e (0, 0) 0
    simp only [List.getElem_cons_zero, hv, Int.toNat_of_nonneg hb0]
    rw [show ((⟨w.heap.size, 0, none⟩ : Addr).add 0) = ⟨w.heap.size, 0, none⟩ from rfl, hc]; rfl
theorem conv_one_mod {P : Program} (src dst e : TypeId) (hs : P.underlying src = some (.slice e)) (he : P.underlying e = some (.int .u8)) (hd : P.underlying dst = some .string) (w : World) (b : Int) :
    (convert src dst (.slice (some ⟨w.heap.size, 0, none⟩) 1 1)).run P (w.alloc (.cells #[.int .u8 (b % 256)] e)) = .ok (.string ⟨#[UInt8.ofNat (b % 256).toNat]⟩) (w.alloc (.cells #[.int .u8 (b % 256)] e)) :=
  conv_one src dst e hs he hd w (b % 256) (by omega) (by omega)
end Sw
