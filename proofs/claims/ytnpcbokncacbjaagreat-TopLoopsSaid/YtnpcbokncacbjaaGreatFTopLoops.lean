/- The closed facts that the row of TopLoops asks of the program, each by itself. -/
import Derived.Test.YtnpcbokncacbjaaGreatRows
import Derived.WalkKit
import Derived.ProofKit
import Derived.OpenShut
import Derived.Test.YtnpcbokncacbjaaGreatTAg
set_option linter.all false
set_option maxRecDepth 1000000
namespace Go.Proofs.YtnpcbokncacbjaaGreat.topLoops
theorem k1 : (Rows.topLoopsRow.wf (OpenSpec.ofChange Rows.topLoopsSpec)) = true := by kernel_rfl
theorem r0 : Go.Abs.allV (rowFine Tryz.prog) 0 103 = true := by kernel_rfl
theorem r1 : Go.Abs.allV (rowFine Tryz.prog) 103 103 = true := by kernel_rfl
theorem r2 : Go.Abs.allV (rowFine Tryz.prog) 206 103 = true := by kernel_rfl
theorem r3 : Go.Abs.allV (rowFine Tryz.prog) 309 103 = true := by kernel_rfl
theorem r4 : Go.Abs.allV (rowFine Tryz.prog) 412 103 = true := by kernel_rfl
theorem r5 : Go.Abs.allV (rowFine Tryz.prog) 515 103 = true := by kernel_rfl
theorem r6 : Go.Abs.allV (rowFine Tryz.prog) 618 103 = true := by kernel_rfl
theorem r7 : Go.Abs.allV (rowFine Tryz.prog) 721 96 = true := by kernel_rfl
theorem rows_fine : (List.range Tryz.prog.types.size).all (rowFine Tryz.prog) = true := by
  rw [show Tryz.prog.types.size = 817 from Tryz.types_size]
  refine List.all_eq_true.2 fun i hi => ?_
  have hi := List.mem_range.1 hi
  by_cases h0 : i < 103
  · exact Go.Abs.allV_get r0 i (by omega) (by omega)
  by_cases h1 : i < 206
  · exact Go.Abs.allV_get r1 i (by omega) (by omega)
  by_cases h2 : i < 309
  · exact Go.Abs.allV_get r2 i (by omega) (by omega)
  by_cases h3 : i < 412
  · exact Go.Abs.allV_get r3 i (by omega) (by omega)
  by_cases h4 : i < 515
  · exact Go.Abs.allV_get r4 i (by omega) (by omega)
  by_cases h5 : i < 618
  · exact Go.Abs.allV_get r5 i (by omega) (by omega)
  by_cases h6 : i < 721
  · exact Go.Abs.allV_get r6 i (by omega) (by omega)
  by_cases h7 : i < 817
  · exact Go.Abs.allV_get r7 i (by omega) (by omega)
  omega
theorem globs_fine : Tryz.prog.globals.all (fun g => decide (g.type < Tryz.prog.types.size)) = true := by kernel_rfl
theorem funcs_fine : Tryz.prog.funcs.all (fun f => f.params.all fun t => decide (t < Tryz.prog.types.size)) = true := by kernel_rfl
theorem k2 : (laidOutB Tryz.prog) = true := by
  unfold laidOutB
  rw [rows_fine, globs_fine, funcs_fine]; rfl
theorem k3 : (mapsRowed Tryz.prog) = true := by kernel_rfl
theorem k4 : (Tryz.f5.params.all (Tryz.prog.readableRec ·)) = true := by kernel_rfl
theorem k5 : (namedTie Tryz.prog Rows.topLoopsRow.named Rows.topLoopsSpec.vars) = true := by kernel_rfl
theorem k6 : ((Rows.topLoopsRow.stops == [])) = true := by kernel_rfl
theorem k7 : ((Tryz.prog.stops == [])) = true := by kernel_rfl
theorem k8 : ((Rows.topLoopsRow.knobs == [])) = true := by kernel_rfl
theorem k9 : ((Tryz.prog.stopKnobs == [])) = true := by kernel_rfl
noncomputable def FT : Go.Abs.PT Func := Go.Abs.PT.setL .e 0 Tryz.prog.funcs.toList
theorem fastf (g : Nat) : Tryz.prog.funcs[g]? = FT.get g := by
  have h := congrArg (fun T : Go.Abs.Tab => T.func g) (Go.Abs.T.fast_eq Tryz.prog Go.Abs.T.noMemo)
  exact h.symm
def L : List FuncId := [5, 12, 14, 27, 49, 76, 77, 8, 22, 46, 45, 61, 62, 63, 88, 123, 166, 144, 227, 167, 168, 228, 335, 99, 229, 336, 407, 340, 410, 411, 412, 139, 413, 209, 337, 223, 324, 234, 232, 325, 323, 322, 403, 402, 326, 10, 230, 338, 169, 231, 170, 233, 408, 171, 172, 235, 339, 409, 341, 414, 479, 526, 250, 349, 350, 321, 480, 342, 236, 343, 237, 173, 238, 239, 174, 240, 241, 242, 245, 243, 330, 327, 404, 475, 328, 329, 406, 334, 476, 478, 477, 405, 291, 384, 461, 462, 399, 9, 516, 385, 464, 463, 517, 308, 309, 386, 465, 387, 388, 466, 518, 519, 81, 111, 82, 112, 80, 58, 60, 225, 244, 344, 124, 175, 177, 176, 246, 247, 345, 248, 347, 265, 219, 319, 318, 316, 401, 320, 474, 221, 346, 249, 348, 415, 417, 482, 416, 481, 418, 483, 527, 528, 529, 530, 484, 531, 532, 533, 178, 125, 179, 251, 252, 253, 180, 126, 127, 181, 254, 273, 275, 351, 255, 352, 419, 420, 433, 421, 422, 362, 434, 435, 52, 436, 437, 353, 423, 267, 485, 534, 573, 535, 486, 440, 500, 536, 424, 438, 499, 460, 514, 560, 561, 515, 562, 563, 594, 606, 367, 263, 256, 190, 354, 257, 277, 355, 377, 206, 266, 258, 356, 357, 425, 487, 537, 11, 26, 18, 30, 31, 32, 53, 83, 34, 33, 426, 488, 44, 59, 87, 121, 122, 86, 113, 114, 161, 115, 162, 163, 116, 164, 165, 226, 117, 118, 119, 120, 428, 492, 539, 574, 493, 491, 538, 427, 489, 490, 429, 494, 495, 496, 497, 540, 575, 581, 576, 599, 577, 578, 600, 601, 609, 579, 580, 582, 583, 498, 272, 374, 375, 365, 366, 459, 264, 182, 183, 137, 259, 358, 359, 136, 260, 191, 268, 369, 442, 441, 443, 368, 439, 269, 370, 444, 445, 501, 446, 447, 502, 503, 541, 448, 449, 450, 451, 270, 361, 431, 432, 360, 430, 261, 363, 262, 195, 187, 364, 278, 396, 470, 522, 471, 523, 222, 524, 572, 598, 608, 472, 525, 473, 65, 64, 23, 47, 48, 66, 67, 89, 128, 129, 184, 90, 68, 70, 130, 135, 185, 186, 201, 131, 97, 142, 193, 132, 188, 133, 189, 91, 134, 92, 93, 138, 192, 94, 69, 95, 140, 96, 141, 72, 100, 145, 196, 198, 274, 376, 391, 276, 205, 210, 298, 279, 378, 280, 379, 197, 199, 200, 281, 282, 283, 380, 293, 284, 285, 381, 382, 286, 383, 392, 292, 389, 390, 312, 400, 467, 294, 295, 393, 468, 520, 469, 521, 564, 565, 595, 566, 567, 596, 597, 607, 568, 569, 570, 571, 305, 287, 288, 146, 202, 289, 147, 203, 290, 204, 296, 148, 101, 149, 207, 297, 151, 208, 218, 310, 311, 397, 398, 313, 314, 315, 152, 98, 143, 194, 271, 372, 454, 453, 456, 505, 542, 506, 544, 545, 543, 507, 546, 455, 504, 371, 452, 373, 457, 508, 509, 36, 55, 84, 50, 78, 110, 25, 510, 547, 549, 550, 548, 584, 552, 553, 551, 585, 554, 586, 555, 587, 458, 511, 556, 588, 602, 7, 19, 37, 38, 56, 85, 35, 54, 20, 39, 40, 41, 42, 43, 57, 21, 512, 513, 557, 590, 604, 589, 603, 591, 605, 610, 611, 618, 612, 613, 619, 620, 621, 614, 615, 616, 617, 592, 593, 559, 558, 71, 73, 102, 150, 74, 103, 153, 156, 154, 160, 104, 155, 211, 299, 212, 213, 300, 394, 395, 214, 301, 215, 302, 303, 304, 216, 306, 217, 307, 75, 105, 106, 107, 157, 108, 109, 158, 220, 317, 159, 224, 331, 333, 332, 24, 15]
theorem clo : Tryz.prog.closure 5 = L := by kernel_rfl
theorem inPlace_eq : Tryz.prog.inPlace 5 = L.filterMap (fun g => (FT.get g).bind fun fn => if fn.ours || fn.body.isNone || fn.name == "runtime.NumGoroutine" then some fn.name else none) := by
  unfold Program.inPlace
  rw [clo]
  congr 1
  funext g
  rw [fastf]
theorem k10 : ((Rows.topLoopsRow.inPlace == Tryz.prog.inPlace 5)) = true := by rw [inPlace_eq]; kernel_rfl
theorem k11 : ((Rows.topLoopsRow.unfollowed == Tryz.prog.unfollowed 5)) = true := by kernel_rfl
theorem k12 : ((Rows.topLoopsRow.recurses == Tryz.prog.recurses 5)) = true := by kernel_rfl
theorem vars_eq : Tryz.prog.varsNamed 5 = ((((L.flatMap fun g => ((FT.get g).bind (·.body)).elim [] Code.globalsNamed).eraseDups).filterMap (fun g => (Tryz.prog.globals[g]?).map (·.name)) ++
   L.filterMap fun g => (FT.get g).bind fun fn => if fn.body.isNone then entryReads.lookup fn.name else none).eraseDups) := by
  unfold Program.varsNamed
  rw [clo, show (fun g => ((Tryz.prog.funcs[g]?).bind (·.body)).elim [] Code.globalsNamed) = (fun g => ((FT.get g).bind (·.body)).elim [] Code.globalsNamed) from funext fun g => by rw [fastf],
    show (fun g => (Tryz.prog.funcs[g]?).bind fun fn => if fn.body.isNone then entryReads.lookup fn.name else none) = (fun g => (FT.get g).bind fun fn => if fn.body.isNone then entryReads.lookup fn.name else none) from funext fun g => by rw [fastf]]
theorem k13 : ((Rows.topLoopsRow.named == Tryz.prog.varsNamed 5)) = true := by rw [vars_eq]; kernel_rfl
theorem k14 : ((Rows.topLoopsRow.maps == (Tryz.f5.params.toList ++ Rows.topLoopsSpec.plain.varTypes Tryz.prog).any (Tryz.prog.mapsRec ·))) = true := by kernel_rfl
theorem k15 : ((Rows.topLoopsRow.ifaces == (Tryz.f5.params.toList ++ Rows.topLoopsSpec.plain.varTypes Tryz.prog).any (Tryz.prog.ifacesRec ·))) = true := by kernel_rfl
theorem k16 : ((Rows.topLoopsRow.mapsOut == Tryz.prog.mapsAmong Tryz.f5.resultTypes.toList)) = true := by kernel_rfl
theorem k17 : ((Rows.topLoopsRow.loops == (Tryz.f5.params.toList ++ Rows.topLoopsSpec.plain.varTypes Tryz.prog).any (Tryz.prog.loopsFrom ·))) = true := by kernel_rfl
theorem k18 : ((Rows.topLoopsRow.wideKeys == (Tryz.f5.params.toList ++ Rows.topLoopsSpec.plain.varTypes Tryz.prog ++ Tryz.f5.resultTypes.toList).any (Tryz.prog.wideKeysFrom ·))) = true := by kernel_rfl
theorem k19 : (Rows.topLoopsSpec.vars.all (Tryz.prog.varReadable ·)) = true := by kernel_rfl
theorem k20 : (Tryz.f5.resultTypes.all (fun t => Tryz.prog.readableRec t && decide (t < Tryz.prog.types.size))) = true := by kernel_rfl
theorem k21 : ((Rows.topLoopsRow.ifacesOut == Tryz.f5.resultTypes.toList.any (Tryz.prog.ifacesRec ·))) = true := by kernel_rfl
theorem k22 : ((Rows.topLoopsRow.loopsOut == Tryz.f5.resultTypes.toList.any (Tryz.prog.loopsFrom ·))) = true := by kernel_rfl
theorem k23 : ((Rows.topLoopsRow.plainKeys == Tryz.prog.plainKeys)) = true := by kernel_rfl
theorem k24 : (Rows.topLoopsRow.shortTexts.isNone) = true := by kernel_rfl
theorem k25 : (Tryz.prog.stopsHeard) = true := by kernel_rfl
theorem k26 : (Tryz.prog.mayEnter) = true := by kernel_rfl
theorem k27 : ((Rows.topLoopsRow.lifted == Tryz.prog.liftsFinal)) = true := by kernel_rfl
theorem k28 : ((Tryz.prog.make == some Rows.topLoopsRow.make)) = true := by kernel_rfl
theorem k29 : ((Rows.topLoopsRow.kinds == (if Rows.topLoopsRow.domain.isEmpty then [] else Tryz.f5.params.toList.map fun t => match Tryz.prog.underlying t with | some (.int k) => some k | _ => none))) = true := by kernel_rfl
theorem k30 : ((Rows.topLoopsRow.pinned == Rows.topLoopsRow.pinnedBy)) = true := by kernel_rfl
theorem k31 : ((Rows.topLoopsRow.veiled == (Tryz.f5.params.toList ++ Rows.topLoopsSpec.plain.varTypes Tryz.prog ++ Tryz.f5.resultTypes.toList).any (Tryz.prog.veiledRec ·))) = true := by kernel_rfl
theorem k32 : (Rows.topLoopsRow.veiledFits Tryz.prog Tryz.f5.params.toList (Tryz.f5.params.toList ++ Rows.topLoopsSpec.plain.varTypes Tryz.prog ++ Tryz.f5.resultTypes.toList)) = true := by kernel_rfl
theorem closed : joinedFacts Tryz.prog 5 Tryz.f5 Rows.topLoopsSpec Rows.topLoopsRow = true := by
  unfold joinedFacts
  simp only [Bool.and_eq_true]
  exact ⟨⟨⟨⟨⟨⟨⟨⟨⟨⟨⟨⟨⟨⟨⟨⟨⟨⟨⟨⟨⟨⟨⟨⟨⟨⟨⟨⟨⟨⟨⟨k1, k2⟩, k3⟩, k4⟩, k5⟩, k6⟩, k7⟩, k8⟩, k9⟩, k10⟩, k11⟩, k12⟩, k13⟩, k14⟩, k15⟩, k16⟩, k17⟩, k18⟩, k19⟩, k20⟩, k21⟩, k22⟩, k23⟩, k24⟩, k25⟩, k26⟩, k27⟩, k28⟩, k29⟩, k30⟩, k31⟩, k32⟩
end Go.Proofs.YtnpcbokncacbjaaGreat.topLoops
