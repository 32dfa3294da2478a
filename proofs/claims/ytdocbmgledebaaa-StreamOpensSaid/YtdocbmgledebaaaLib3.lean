/-
  Words of my own: strings and bytes.
-/
import Derived.Test.YtdocbmgledebaaaLib2
namespace Go.Proofs.Ytdocbmgledebaaa
set_option linter.unusedVariables false
set_option linter.unusedSimpArgs false
open Go.RowKit Go.Proofs.YtdocbmgledebaaaW.PrintWords

/-- a class of worlds by letters -/
theorem class_type (C : World → Prop) (w : World) (h : C w) : ∃ (T : Type) (f : T → World), Nonempty T ∧ (∀ s, C (f s)) ∧ (∀ w', C w' → ∃ s, w' = f s) :=
  ⟨{x // C x}, Subtype.val, ⟨⟨w, h⟩⟩, fun s => s.2, fun w' hw' => ⟨⟨w', hw'⟩, rfl⟩⟩
theorem strOf_bytes (s : ByteArray) : strOfNums (bytesOf s) = s := by
  unfold strOfNums bytesOf
  rw [List.map_map]
  have : ((fun n : Int => UInt8.ofNat n.toNat) ∘ fun b : UInt8 => (b.toNat : Int)) = id := by
    funext b; simp
  rw [this, List.map_id]
theorem bytesOf_inj {s t : ByteArray} (h : bytesOf s = bytesOf t) : s = t := by
  rw [← strOf_bytes s, ← strOf_bytes t, h]
theorem bytesOf_append (s t : ByteArray) : bytesOf (s ++ t) = bytesOf s ++ bytesOf t := by simp [bytesOf]
theorem bytesOf_str {l : List Int} (h : Byt l) : bytesOf (strOfNums l) = l := by
  unfold strOfNums bytesOf
  rw [List.map_map]
  refine (List.map_congr_left fun x hx => ?_).trans (List.map_id l)
  have := h x hx
  simp
  omega
theorem size_str (l : List Int) : (strOfNums l).size = l.length := by simp [strOfNums, ByteArray.size]
theorem size_bytesOf (s : ByteArray) : s.size = (bytesOf s).length := (bytesOf_length s).symm
theorem str_one {P : Program} {src dst e : TypeId} (hs : P.underlying src = some (.slice e)) (he : P.underlying e = some (.int .u8)) (hd : P.underlying dst = some .string) (x : Int) (w : World) :
    (convert src dst (.slice (some ⟨w.heap.size, 0, none⟩) 1 1)).run P (w.alloc (.cells #[.int .u8 x] e)) = .ok (.string (strOfNums [x])) (w.alloc (.cells #[.int .u8 x] e)) :=
  string_of_reads hs he hd (own_reads' (own_lit w 0 e .u8 [x] (Nat.zero_le _) (by simp)))
end Go.Proofs.Ytdocbmgledebaaa
