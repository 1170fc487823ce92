import Derived.Test.YthpjkfcaabhdhaaGreatFold
import Derived.Test.YthpjkfcaabhdhaaGreatKinds
namespace Go.Proofs.YthpjkfcaabhdhaaGreat
open Go.RowKit
theorem v1 : foldL #[32, 49, 50, 45, 97, 32, 32, 82, 117, 101, 194, 160, 83, 116, 46, 32, 74, 101, 97, 110, 44].toList = [49, 50, 45, 65, 32, 82, 85, 69, 32, 83, 84, 32, 74, 69, 65, 78] := by decide +kernel
theorem v2 : foldL #[195, 132, 120, 195, 159].toList = [65, 69, 88, 83, 83] := by decide +kernel
theorem v3 : foldL #[195, 151].toList = [] := by decide +kernel
theorem v4 : foldL #[195].toList = [] := by decide +kernel
theorem v5 : shortL 2 ⟨#[65, 86, 69, 78, 85, 69]⟩ = (⟨#[65, 86, 69]⟩, true) := by decide +kernel
theorem v6 : shortL 2 ⟨#[83, 84]⟩ = (ByteArray.empty, false) := by decide +kernel
theorem v7 : kindsTo ⟨#[83, 84]⟩ 40 = 36 := by decide +kernel
theorem v8 : kindsTo ⟨#[88]⟩ 40 = 0 := by decide +kernel
theorem v9 : sameW 2 ⟨#[80, 76, 65, 84, 90]⟩ ⟨#[80, 76, 65, 67, 69]⟩ = false := by decide +kernel
theorem v10 : sameW 2 ⟨#[80, 76]⟩ ⟨#[80, 76, 65, 67, 69]⟩ = true := by decide +kernel
theorem v11 : sameW 0 ⟨#[83, 84]⟩ ⟨#[83, 65, 73, 78, 84]⟩ = true := by decide +kernel
theorem v12 : sameL (longsL 0 ⟨#[83, 84]⟩) [⟨#[83, 84, 82, 69, 69, 84]⟩, ⟨#[83, 65, 73, 78, 84]⟩] = true := by decide +kernel
theorem v13 : sameL (longsL 5 ⟨#[83, 84]⟩) [⟨#[83, 65, 73, 78, 84]⟩] = true := by decide +kernel
theorem v14 : sameL (longsL 2 ⟨#[65, 86, 69, 78, 85, 69]⟩) [⟨#[65, 86, 69, 78, 85, 69]⟩] = true := by decide +kernel
theorem v15 : sameL (longsL 2 ⟨#[80, 76]⟩) [⟨#[80, 76, 65, 67, 69]⟩, ⟨#[80, 76, 65, 84, 90]⟩] = true := by decide +kernel
end Go.Proofs.YthpjkfcaabhdhaaGreat
