/-
  LayoutNobody: the closed facts of its row, one at a time.
-/
import Derived.Test.YtdijjakmjlegoaaGreatDoorSBase
namespace Go.Proofs.YtdijjakmjlegoaaGreatDoor
open Go
namespace LayoutNobody
set_option maxRecDepth 100000 in
def reach : List FuncId := [4, 10, 34, 36, 35, 37, 66, 113, 89, 152, 61, 114, 67, 68, 69, 115, 42, 82, 136, 29, 30, 57, 58, 83, 137, 138, 84, 139, 85, 140, 156, 233, 186, 287, 400, 141, 86, 142, 234, 147, 237, 348, 238, 144, 143, 145, 235, 347, 236, 87, 146, 148, 239, 88, 149, 150, 240, 151, 241, 349, 190, 128, 229, 346, 227, 344, 343, 345, 444, 467, 191, 288, 401, 371, 464, 402, 291, 403, 474, 404, 135, 289, 290, 405, 192, 193, 194, 116, 195, 292, 406, 475, 526, 407, 293, 408, 294, 197, 196, 295, 296, 409, 297, 298, 410, 299, 301, 411, 300, 302, 412, 413, 418, 478, 479, 417, 477, 303, 304, 414, 415, 476, 416, 70, 117, 198, 199, 305, 200, 201, 202, 306, 307, 308, 203, 72, 71, 118, 204, 205, 309, 310, 119, 120, 206, 207, 311, 312, 419, 313, 314, 315, 420, 316, 421, 208, 209, 210, 211, 133, 317, 213, 230, 318, 319, 212, 214, 73, 121, 215, 216, 320, 321, 422, 480, 481, 482, 505, 427, 430, 483, 484, 485, 486, 487, 488, 489, 423, 322, 323, 425, 499, 424, 490, 496, 532, 491, 527, 492, 528, 529, 493, 530, 531, 537, 494, 495, 497, 498, 324, 325, 431, 432, 434, 436, 435, 506, 329, 439, 440, 441, 338, 437, 336, 443, 507, 433, 504, 428, 426, 500, 501, 502, 503, 429, 217, 218, 326, 438, 327, 328, 219, 331, 330, 220, 332, 442, 334, 333, 335, 337, 221, 339, 223, 342, 222, 340, 341, 122, 11, 32, 38, 39, 74, 123, 224, 75, 124, 125, 225, 226, 76, 126, 77, 129, 130, 79, 132, 131, 134, 231, 232, 127, 228, 12, 40, 41, 78, 80, 81, 13, 43, 90, 154, 243, 153, 242, 92, 91, 155, 244, 245, 350, 445, 14, 44, 15, 9, 33, 62, 105, 106, 176, 276, 177, 277, 178, 278, 392, 393, 394, 472, 108, 107, 179, 279, 395, 396, 397, 180, 181, 182, 280, 281, 285, 398, 283, 399, 473, 525, 183, 282, 284, 261, 376, 165, 169, 184, 185, 286, 63, 64, 109, 187, 188, 65, 110, 111, 7, 27, 28, 112, 93, 157, 246, 351, 352, 353, 446, 508, 447, 510, 509, 511, 513, 533, 512, 515, 536, 540, 534, 538, 535, 539, 541, 514, 448, 354, 449, 379, 517, 516, 247, 248, 355, 356, 357, 450, 249, 359, 358, 360, 451, 455, 361, 365, 452, 453, 454, 364, 363, 456, 250, 362, 158, 251, 366, 457, 518, 519, 458, 252, 253, 254, 255, 367, 459, 520, 460, 368, 369, 461, 462, 521, 463, 522, 370, 256, 372, 257, 373, 258, 259, 374, 375, 260, 189, 8, 31, 59, 104, 60]
theorem closure4 : Tryz.prog.closure 4 = reach := by kernel_rfl
theorem unfollowed : Tryz.prog.unfollowed 4 = true := by
  unfold Program.unfollowed
  rw [closure4]
  kernel_rfl
theorem k0 : (Rows.layoutNobodyRow.wf (OpenSpec.ofChange (OpenSpec.ofChange Rows.layoutNobodySpec).bare)) = true := by kernel_rfl
theorem k1 : (laidOutB Tryz.prog) = true := by kernel_rfl
theorem k2 : (mapsRowed Tryz.prog) = true := by kernel_rfl
theorem k3 : (Tryz.f4.params.all (Tryz.prog.readableRec ·)) = true := by kernel_rfl
theorem k4 : (namedTie Tryz.prog Rows.layoutNobodyRow.named (OpenSpec.ofChange Rows.layoutNobodySpec).bare.vars) = true := by kernel_rfl
theorem k5 : ((Rows.layoutNobodyRow.stops == [])) = true := by kernel_rfl
theorem k6 : ((Tryz.prog.stops == [])) = true := by kernel_rfl
theorem k7 : ((Rows.layoutNobodyRow.knobs == [])) = true := by kernel_rfl
theorem k8 : ((Tryz.prog.stopKnobs == [])) = true := by kernel_rfl
theorem k9 : ((Rows.layoutNobodyRow.inPlace == Tryz.prog.inPlace 4)) = true := by
  unfold Program.inPlace
  rw [closure4]
  kernel_rfl
theorem k10 : ((Rows.layoutNobodyRow.unfollowed == Tryz.prog.unfollowed 4)) = true := by rw [unfollowed]; rfl
theorem k11 : ((Rows.layoutNobodyRow.recurses == Tryz.prog.recurses 4)) = true := by
  unfold Program.recurses
  rw [unfollowed]; rfl
theorem k12 : ((Rows.layoutNobodyRow.named == Tryz.prog.varsNamed 4)) = true := by
  unfold Program.varsNamed
  rw [closure4]
  kernel_rfl
theorem k13 : ((Rows.layoutNobodyRow.maps == (Tryz.f4.params.toList ++ (OpenSpec.ofChange Rows.layoutNobodySpec).bare.plain.varTypes Tryz.prog).any (Tryz.prog.mapsRec ·))) = true := by kernel_rfl
theorem k14 : ((Rows.layoutNobodyRow.ifaces == (Tryz.f4.params.toList ++ (OpenSpec.ofChange Rows.layoutNobodySpec).bare.plain.varTypes Tryz.prog).any (Tryz.prog.ifacesRec ·))) = true := by kernel_rfl
theorem k15 : ((Rows.layoutNobodyRow.mapsOut == Tryz.prog.mapsAmong Tryz.f4.resultTypes.toList)) = true := by kernel_rfl
theorem k16 : ((Rows.layoutNobodyRow.loops == (Tryz.f4.params.toList ++ (OpenSpec.ofChange Rows.layoutNobodySpec).bare.plain.varTypes Tryz.prog).any (Tryz.prog.loopsFrom ·))) = true := by kernel_rfl
theorem k17 : ((Rows.layoutNobodyRow.wideKeys == (Tryz.f4.params.toList ++ (OpenSpec.ofChange Rows.layoutNobodySpec).bare.plain.varTypes Tryz.prog ++ Tryz.f4.resultTypes.toList).any (Tryz.prog.wideKeysFrom ·))) = true := by kernel_rfl
theorem k18 : ((OpenSpec.ofChange Rows.layoutNobodySpec).bare.vars.all (Tryz.prog.varReadable ·)) = true := by kernel_rfl
theorem k19 : (Tryz.f4.resultTypes.all (fun t => Tryz.prog.readableRec t && decide (t < Tryz.prog.types.size))) = true := by kernel_rfl
theorem k20 : ((Rows.layoutNobodyRow.ifacesOut == Tryz.f4.resultTypes.toList.any (Tryz.prog.ifacesRec ·))) = true := by kernel_rfl
theorem k21 : ((Rows.layoutNobodyRow.loopsOut == Tryz.f4.resultTypes.toList.any (Tryz.prog.loopsFrom ·))) = true := by kernel_rfl
theorem k22 : ((Rows.layoutNobodyRow.plainKeys == Tryz.prog.plainKeys)) = true := by kernel_rfl
theorem k23 : (Rows.layoutNobodyRow.shortTexts.isNone) = true := by kernel_rfl
theorem k24 : (Tryz.prog.stopsHeard) = true := by kernel_rfl
theorem k25 : (Tryz.prog.mayEnter) = true := by kernel_rfl
theorem k26 : ((Rows.layoutNobodyRow.lifted == Tryz.prog.liftsFinal)) = true := by kernel_rfl
theorem k27 : ((Tryz.prog.make == some Rows.layoutNobodyRow.make)) = true := by kernel_rfl
theorem k28 : ((Rows.layoutNobodyRow.kinds == (if Rows.layoutNobodyRow.domain.isEmpty then [] else Tryz.f4.params.toList.map fun t => match Tryz.prog.underlying t with | some (.int k) => some k | _ => none))) = true := by kernel_rfl
theorem k29 : ((Rows.layoutNobodyRow.pinned == Rows.layoutNobodyRow.pinnedBy)) = true := by kernel_rfl
theorem k30 : ((Rows.layoutNobodyRow.veiled == (Tryz.f4.params.toList ++ (OpenSpec.ofChange Rows.layoutNobodySpec).bare.plain.varTypes Tryz.prog ++ Tryz.f4.resultTypes.toList).any (Tryz.prog.veiledRec ·))) = true := by kernel_rfl
theorem k31 : (Rows.layoutNobodyRow.veiledFits Tryz.prog Tryz.f4.params.toList (Tryz.f4.params.toList ++ (OpenSpec.ofChange Rows.layoutNobodySpec).bare.plain.varTypes Tryz.prog ++ Tryz.f4.resultTypes.toList)) = true := by kernel_rfl
theorem factGoes : false = Rows.layoutNobodyRow.goesBy Tryz.prog := by
  unfold OpenClaim.goesBy Program.goesAt
  rw [goesFrom_none]; rfl
theorem factText : Rows.layoutNobodyRow.wfByText (OpenSpec.ofChange Rows.layoutNobodySpec) = true := by kernel_rfl
end LayoutNobody
end Go.Proofs.YtdijjakmjlegoaaGreatDoor
