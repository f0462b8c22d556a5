/-
  What the row's computed cells are, of the function VmNames: the functions that its call can come to (reckoned with a set as a number, and proved to be the form's own list), and the cells that hang on it. No condition.
-/
import Derived.Test.YtdfbcjoopkiaeaaGreatDoorEvFa
import Derived.Test.YtdfbcjoopkiaeaaGreatDoorProg
namespace Go.Proofs.YtdfbcjoopkiaeaaGreatDoor
open Go
def vmClo : List Nat := [3, 5, 4, 7, 18, 44, 55, 106, 95, 45, 96, 46, 47, 97, 143, 190, 237, 149, 328, 238, 329, 295, 53, 105, 54, 330, 400, 469, 520, 558, 274, 372, 438, 488, 198, 252, 410, 419, 352, 373, 
  370, 439, 440, 506, 507, 441, 508, 555, 583, 588, 600, 601, 597, 602, 589, 561, 579, 590, 592, 591, 593, 594, 468, 564, 563, 565, 60, 585, 570, 541, 569, 603, 595, 596, 531, 573, 587, 572, 574, 604, 
  575, 584, 598, 599, 605, 408, 476, 538, 477, 478, 340, 409, 414, 483, 484, 528, 485, 486, 542, 543, 580, 581, 539, 479, 356, 239, 331, 332, 401, 107, 402, 470, 241, 240, 333, 144, 191, 242, 334, 403, 
  335, 337, 405, 472, 521, 522, 523, 559, 560, 524, 525, 526, 562, 566, 567, 568, 527, 529, 571, 586, 530, 532, 576, 577, 473, 533, 336, 404, 471, 474, 534, 535, 536, 578, 338, 406, 339, 407, 475, 537, 
  243, 341, 411, 412, 480, 413, 27, 59, 481, 540, 250, 343, 415, 345, 417, 248, 482, 249, 192, 244, 245, 342, 193, 246, 247, 344, 416, 194, 21, 52, 48, 19, 49, 98, 145, 195, 196, 251, 346, 347, 
  99, 50, 100, 101, 146, 197, 102, 103, 147, 104, 148, 8, 20, 51, 9, 22, 23, 24, 56, 25, 57, 58, 26, 10, 12, 28, 61, 11, 13, 29, 63, 62, 88, 75, 34, 73, 74, 113, 152, 200, 
  201, 253, 171, 226, 323, 324, 202, 254, 203, 154, 153, 155, 114, 120, 76, 78, 164, 30, 31, 64, 108, 150, 199, 65, 66, 68, 67, 109, 69, 110, 70, 111, 151, 112, 33, 35, 32, 72, 71, 83, 
  126, 169, 225, 320, 321, 396, 467, 395, 459, 460, 515, 461, 516, 517, 462, 518, 519, 557, 463, 464, 465, 466, 322, 378, 444, 397, 127, 79, 128, 170, 172, 227, 173, 174, 228, 229, 230, 325, 398, 326, 
  399, 231, 175, 232, 80, 130, 176, 129, 177, 36, 77, 115, 116, 156, 204, 255, 271, 268, 259, 353, 421, 369, 296, 256, 257, 348, 262, 282, 258, 349, 418, 487, 420, 489, 544, 582, 490, 350, 351, 357, 
  423, 491, 492, 493, 427, 498, 499, 546, 547, 545, 260, 354, 422, 355, 261, 358, 424, 359, 425, 494, 495, 426, 496, 497, 428, 500, 548, 549, 550, 551, 552, 553, 360, 429, 501, 502, 554, 430, 503, 361, 
  263, 362, 363, 264, 364, 365, 266, 366, 431, 504, 432, 433, 505, 265, 205, 267, 367, 368, 434, 435, 436, 269, 270, 272, 299, 273, 371, 437, 275, 276, 206, 277, 278, 374, 442, 509, 443, 279, 280, 281, 
  207, 283, 375, 376, 284, 316, 285, 286, 288, 287, 180, 289, 294, 297, 290, 377, 291, 208, 292, 187, 293, 298, 300, 209, 301, 302, 303, 304, 305, 379, 381, 446, 445, 380, 447, 210, 306, 382, 383, 307, 
  384, 448, 449, 510, 450, 511, 451, 512, 385, 386, 452, 453, 454, 455, 387, 388, 389, 211, 308, 213, 317, 391, 392, 393, 456, 457, 513, 514, 556, 458, 309, 310, 311, 312, 313, 315, 390, 314, 117, 157, 
  86, 132, 131, 133, 212, 158, 159, 160, 214, 215, 216, 217, 124, 89, 134, 178, 167, 87, 118, 119, 161, 84, 82, 125, 168, 142, 186, 235, 327, 236, 188, 189, 162, 218, 219, 318, 319, 394, 222, 223, 
  220, 163, 221, 81, 39, 121, 165, 122, 123, 166, 224, 91, 135, 6, 14, 15, 17, 37, 38, 40, 85, 41, 42, 43, 90, 92, 136, 179, 93, 94, 137, 181, 138, 139, 182, 183, 233, 140, 141, 184, 
  185, 234, 16]
theorem vm_fuel : 1 + (Tryz.prog.funcs.toList.map fun g => (Tryz.prog.leadsTo g).length + 1).sum = 2451 := by kernel_rfl
theorem vm_clo_run : Go.Ev.cloF Tryz.prog 2451 [3] 0 [] = vmClo := by kernel_rfl
theorem vm_clo : Tryz.prog.closure 3 = vmClo := Go.Ev.closure_eq vm_fuel vm_clo_run
theorem vm_goes : (Tryz.prog.funcs.toList.any Func.goes) = false := by kernel_rfl
theorem vm_inPlace : Tryz.prog.inPlace 3 = ["math.Float64bits", "internal/bytealg.IndexByteString", "math.Float64frombits", "internal/strconv.float64frombits", "internal/strconv.float32frombits", "internal/strconv.float32bits", "internal/strconv.float64bits", "internal/bytealg.IndexString", "internal/abi.NoEscape", "internal/bytealg.MakeNoZero", "math.sqrt", "math.archTrunc", "math.archFloor", "math.RoundToEven", "slices.overlaps[distaff/api.Word]"] := by
  unfold Program.inPlace
  rw [vm_clo]
  kernel_rfl
theorem vm_unfollowed : Tryz.prog.unfollowed 3 = true := by
  unfold Program.unfollowed
  rw [vm_clo]
  kernel_rfl
theorem vm_recurses : Tryz.prog.recurses 3 = true := by
  unfold Program.recurses
  rw [vm_unfollowed]
  rfl
theorem vm_named : Tryz.prog.varsNamed 3 = ["unicode/utf8.first", "unicode/utf8.acceptRanges", "internal/strconv.float32info", "internal/strconv.optimize", "internal/strconv.float32pow10", "internal/strconv.pow10Tab", "internal/strconv.powtab", "internal/strconv.leftcheats", "internal/strconv.float64info", "internal/strconv.float64pow10", "strconv.ErrSyntax", "strconv.ErrRange", "internal/strconv.uint64pow10", "math/bits.deBruijn32tab", "math/bits.deBruijn64tab", "internal/bytealg.MaxLen", "strings.asciiSpace", "unicode.White_Space", "distaff/prim.counts"] := by
  unfold Program.varsNamed
  rw [vm_clo]
  kernel_rfl
end Go.Proofs.YtdfbcjoopkiaeaaGreatDoor
